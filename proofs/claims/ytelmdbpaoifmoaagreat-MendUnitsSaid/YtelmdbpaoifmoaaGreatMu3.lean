/-
  Part 3 of the texts behind a statement of this seat: Sim27, Sim30, Sim31, Sim22, ZEvH, Sim28, ZM1, Sp6, Sp13, Sp10, ZMe1, Sp14, Sp15, Sq16, Sq17, ZMe2, ZMe3, ZM4, Sq18, ZMe5, ZM2, Sq19, Sq20, ZMe6, ZLvO, Sim29, Sim32, ZLv1, ZK, Sim36, ZU, ZN1.
-/
import Derived.Test.YtelmdbpaoifmoaaGreatProg
import Derived.KernelRfl
import Derived.Test.YtelmdbpaoifmoaaGreatRows
import Derived.Test.YtelmdbpaoifmoaaGreatMu2
open Bool (and_eq_true false_eq_true)
open Classical (byContradiction)
open Go.Proofs.Tryz (prog)
open Int (mul_assoc)
open List (getD_eq_getElem?_getD getElem?_append_left getElem?_eq_getElem getElem_mem length_cons length_map mem_append mem_cons mem_filter mem_map mem_range)
open Nat (eq_of_beq_eq_true eq_of_testBit_eq le_refl lt_of_lt_of_le pow_le_pow_right testBit_and testBit_or zero_le)
open Option (bind_some)
namespace Go.Sim
section
inductive Dj (o:Option (List (Value×ae))) (K:Value→ae→Prop):Prop | mk:(∃l,o=some l∧∀p∈l,K p.1 p.2)→Dj o K
inductive C7 (P:Program) (F:FuncId) (args:List Value) (h:ae) (K:Value→ae→Prop):Prop | mk:R6 P F args h K→C7 P F args h K
theorem Yw (o:Option (List (Value×ae))) (K:Value→ae→Prop):Dj o K=∃l,o=some l∧∀p∈l,K p.1 p.2:=propext ⟨fun ⟨h⟩=>h,.mk⟩
theorem anD:C7=R6:=funext fun _=>funext fun _=>funext fun _=>funext fun _=>funext fun _=>propext ⟨fun ⟨h⟩=>h,.mk⟩
def FU (P:Program) (o:gW) (f:Nat→Value) (h:ae) (K:Value→ae→Prop):Prop:=
 match o with
 | .e (.next it)=>Dj (At h (ev f it)) K
 | .p o=>FH o (ev f) fun v=>K v h
 | .l o=>OP (fC o (ev f) h) fun v=>K v h
 | .e o=>OH (gj o (ev f) h) K
 | .call g args=>ak P g (args.map (ev f)) h K
 | .kY x args=>uZ P (ev f x) (args.map (ev f)) h K
theorem aEK (P:Program) (o:gW) (f:Nat→Value) (h:ae) (K:Value→ae→Prop):FU P o f h K=CJ P o f h K:=by
 cases o with
 | e eo=>cases eo <;> simp only [FU,CJ,dd,MX,Yw]
 | _=>simp only [FU,CJ,dd,UJ,A5,uY,Mb]
def QD (P:Program) (l:List jf) (K:(Nat→Value)→ae→Prop):(Nat→Value)→ae→Prop:=
 List.rec (motive:=fun _=>(Nat→Value)→ae→Prop) (fun f h=>K f h) (fun o _ ih f h=>FU P o.op f h fun v h'=>ih (dG f o.dst v) h') l
theorem awf (P:Program) (l:List jf) (K:(Nat→Value)→ae→Prop):∀(f:Nat→Value) (h:ae),QD P l K f h=Bt P l K f h:=by
 induction l with
 | nil=>intro f h;rfl
 | cons o os ih=>
  intro f h
  show FU P o.op f h (fun v h'=>QD P os K (dG f o.dst v) h')=_
  rw [aEK,Bt]
  congr 1
  funext v h'
  exact ih _ _
def Ta (P:Program) (g:Option (Nat×Bool)) (l:List jf) (K:(Nat→Value)→ae→Prop) (f:Nat→Value) (h:ae):Prop:=
 match g with
 | none=>QD P l K f h
 | some (s,b)=>cD (f s) b (Ec P l K f h) (K (CO l f) h)
theorem azS (P:Program) (g:Option (Nat×Bool)) (l:List jf) (K:(Nat→Value)→ae→Prop) (f:Nat→Value) (h:ae):Ta P g l K f h=J9 P g l K f h:=by
 unfold Ta J9 tA
 split <;> simp only [awf,adq,Md]
noncomputable def iB (P:Program) (c:fa):ar→(Nat→Value)→ae→Prop:=
 fa.rec (motive:=fun _=>ar→(Nat→Value)→ae→Prop)
  (fun K f h=>K .normal f h)
  (fun l K f h=>tY P l 0 [] [] (K .normal) f h)
  (fun g l K f h=>Ta P g l (K .normal) f h)
  (fun _ _ ia ib K f h=>ia (aF (ib K) K) f h)
  (fun ls _ ic K f h=>ay (ic K) ls (ls.map f) h)
  (fun c _ _ ia ib K f h=>aO (ev f c) (ia K f h) (ib K f h))
  (fun id _ ic K f h=>ic (bO id K) f h)
  (fun ks ls _ ic K f h=>cN (ls.map f) h fun L xs hx=>ay (ic (aF (fun f' aT=>ks.map f'=ks.map f∧L (ls.map f') aT) K)) (ks++ls) (ks.map f++xs) hx)
  (fun id K f h=>K (.exit id) f h)
  (fun K f h=>K .ret f h)
  (fun g ls c K f h=>A6 P (ev f g) ls (ls.map f) c h (K .normal f)) c
theorem ax2 (P:Program) (c:fa):iB P c=lW P c:=by
 induction c with
 | skip=>rfl
 | Iy l=>funext K f h;exact IQ P l 0 [] [] (K .normal) f h
 | ops g l=>funext K f h;exact azS P g l (K .normal) f h
 | seq a b sf tg=>
  funext K f h
  show iB P a (aF (iB P b K) K) f h=lW P a (aF (lW P b K) K) f h
  rw [sf,tg]
 | cut ls c ih=>
  funext K f h
  show ay (iB P c K) ls (ls.map f) h=Bj (lW P c K) ls (ls.map f) h
  rw [ih,Da]
 | cond c a b sf tg=>
  funext K f h
  show aO (ev f c) (iB P a K f h) (iB P b K f h)=pN (ev f c) (lW P a K f h) (lW P b K f h)
  rw [sf,tg,W5]
 | block id c ih=>
  funext K f h
  show iB P c (bO id K) f h=lW P c (bO id K) f h
  rw [ih]
 | loop ks ls c ih=>
  funext K f h
  show cN (ls.map f) h (fun L xs hx=>ay (iB P c (aF (fun f' aT=>ks.map f'=ks.map f∧L (ls.map f') aT) K)) (ks++ls) (ks.map f++xs) hx)=
   Ao (ls.map f) h (fun L xs hx=>lW P c (aF (fun f' aT=>ks.map f'=ks.map f∧L (ls.map f') aT) K) (kA (ks++ls) (ks.map f++xs)) hx)
  rw [ih,Yv,Da]
  rfl
 | exit id=>rfl
 | ret=>rfl
 | range g ls c=>
  funext K f h
  show A6 P (ev f g) ls (ls.map f) c h (K .normal f)=uH P (ev f g) ls (ls.map f) c h (K .normal f)
  rw [Yx]
theorem aua {P:Program} {F:FuncId} {N:Nat} {ic:fa} {rs:List kG} {hs:Hints} {h:ae} (hc:bC P F hs=some (N,ic,rs)) {args:List Value} (ha:args.length≤N)
  {K:Value→ae→Prop} (hi:iB P ic (aS rs K) (bw args) h):C7 P F args h K:=
 .mk (axH hc ha (by rw [←ax2,←YX];exact hi))
theorem aqu {l:List (Value×ae)} {K:Value→ae→Prop}:Dj (some l) K↔∀p∈l,K p.1 p.2:=by
 rw [Yw]
 constructor
 ·rintro ⟨l',h1,h2⟩;cases h1;exact h2
 ·intro h;exact ⟨l,rfl,h⟩
section gc
variable {P : Program} {F : FuncId} {args : List Value} {h : ae}
theorem aub {K:Value→ae→Prop} {V:Nat→Value} {o:aq} (hV:oW V) (ho:wD o=true)
  (hc:C7 P F args h fun u h'=>EX h h'∧∃i,h.length≤i∧h'[i]?=some o∧u=V i) (hk:K (V h.length) (h++[o])):ak P F args h K:=by
 rw [uY]
 rw [anD] at hc
 refine ⟨_,_,?_,hk⟩
 intro ρ args' w hv H
 refine (hc ρ args' w hv H).mono ?_
 rintro e w' ⟨u,h',v',av,⟨hex,i,hi,bT,rfl⟩,rfl,jI,H',T⟩
 let mL:aL:=fun k=>if k=h.length then av i else ρ k
 have r1:mL h.length=av i:=by simp [mL]
 have r2:∀k,k≠h.length→mL k=ρ k:=fun k hk=>by simp [mL,hk]
 have r3:∀k r,ρ k=some r→av k=some r∧k<h.length∧h'[k]?=h[k]?:=fun k r hr=>⟨T.ext k r hr,H.lt hr,hex.2 k (H.lt hr)⟩
 have old:∀k,k<h.length→(h++[o])[k]?=h[k]?:=fun k hk=>getElem?_append_left hk
 have new:(h++[o])[h.length]?=some o:=by simp
 have hle:ρ.le mL:=by
  intro k r hr
  rw [r2 k (by have:=H.lt hr;omega)]
  exact hr
 have mt:∀k,k<h.length→(cA (h++[o]) k↔cA h' k):=fun k hk=>by unfold cA;rw [old k hk,hex.2 k hk]
 have E1:∀k,k<h.length→(eR (h++[o]) k↔eR h' k):=fun k hk=>by unfold eR;rw [old k hk,hex.2 k hk]
 have SP:cA (h++[o]) h.length↔cA h' i:=by unfold cA;rw [new,bT]
 have SC:eR (h++[o]) h.length↔eR h' i:=by unfold eR;rw [new,bT]
 refine ⟨v',mL,rfl,hV av mL i h.length v' r1 jI,⟨?_,?_,?_⟩,?_⟩
 ·intro k r hr
  by_cases e:k=h.length
  ·subst e
   rw [r1] at hr
   obtain ⟨o',dL,nL⟩:=H'.obj i r hr
   rw [bT] at dL
   cases dL
   exact ⟨o,new,wD.rel ho nL⟩
  ·rw [r2 k e] at hr
   obtain ⟨q1,q2,q3⟩:=r3 k r hr
   obtain ⟨o',dL,nL⟩:=H.obj k r hr
   obtain ⟨o2,EB,Rt⟩:=H'.obj k r q1
   rw [q3,dL] at EB
   cases EB
   exact ⟨o',by rw [old k q2];exact dL,(nL.down T.ext Rt).mono hle rfl⟩
 ·intro a b r s ha hb nc hm hl
  by_cases ea:a=h.length <;> by_cases eb:b=h.length
  ·omega
  ·subst ea
   rw [r1] at ha
   rw [r2 b eb] at hb
   obtain ⟨q1,q2,q3⟩:=r3 b s hb
   have:=H'.inj i b r s ha q1 nc (SP.1 hm) ((E1 b q2).1 hl)
   omega
  ·subst eb
   rw [r1] at hb
   rw [r2 a ea] at ha
   obtain ⟨q1,q2,q3⟩:=r3 a r ha
   have:=H'.inj a i r s q1 hb nc ((mt a q2).1 hm) (SC.1 hl)
   omega
  ·rw [r2 a ea] at ha
   rw [r2 b eb] at hb
   obtain ⟨q1,q2,_⟩:=r3 a r ha
   obtain ⟨p1,p2,_⟩:=r3 b s hb
   exact H'.inj a b r s q1 p1 nc ((mt a q2).1 hm) ((E1 b p2).1 hl)
 ·intro k r hr
  by_cases e:k=h.length
  ·subst e
   rw [r1] at hr
   exact H'.aW i r hr
  ·rw [r2 k e] at hr
   exact H.aW k r hr
 ·exact {
   ext:=hle
   len:=by simp
   jG:=fun k r hr=>H.lt hr
   kinds:=fun k hk hm=>by unfold cA at hm⊢;rw [old k hk] at hm;exact hm
   fresh:=by
    intro k r hr hn
    by_cases e:k=h.length
    ·subst e
     rw [r1] at hr
     have iW:ρ i=none:=by
      cases hq:ρ i with
      | none=>rfl
      | some q=>exact absurd (H.lt hq) (by omega)
     exact ⟨le_refl _,(T.fresh i r hr iW).2⟩
    ·rw [r2 k e] at hr
     rw [hr] at hn
     cases hn
   iP:=T.iP
   iy:=T.iy
   os:=T.os
   tape:=T.tape
   output:=T.output }
end gc
end
section
theorem EX.load {h h':ae} (k:EX h h') {agg:Bool} {n:Nat} {a v:Value} (hl:af agg n h a=some v):af agg n h' a=some v:=by
 unfold af at hl⊢
 split at hl
 ·rename_i i o
  cases hc:aQ h i with
  | none=>rw [hc] at hl;cases hl
  | some xs=>rw [hc] at hl;rw [k.cells hc];exact hl
 ·cases hl
theorem ft (i:Nat) (h:i<4611686018427387904):IntKind.wrap .i64 ((i:Int)+1)=((i+1:Nat):Int):=by
 rw [wrap64 (by omega) (by omega)];omega
@[simp] theorem cw (o i k : Nat) : aM o (pt i k) = some (pt i (k + o)) := rfl
@[simp] theorem JZ (i k : Nat) : xR (pt i k) = some (pt i k) := rfl
def sk (ps:List (Int×Int)):List Value:=ps.flatMap fun p=>[I p.1,I p.2]
theorem KL:∀{ps:List (Int×Int)} {k:Nat} {p:Int×Int},ps[k]?=some p→(sk ps)[2*k]?=some (I p.1)∧(sk ps)[2*k+1]?=some (I p.2)
 | [],k,p,h=>by simp at h
 | q::ps,0,p,h=>by simp at h;subst h;simp [sk]
 | q::ps,k+1,p,h=>by
  have:=KL (ps:=ps) (k:=k) (p:=p) (by simpa using h)
  rw [show 2*(k+1)=2*k+1+1 by omega]
  simpa [sk] using this
theorem akP (ps:List (Int×Int)):(sk ps).length=2*ps.length:=by
 induction ps with
 | nil=>rfl
 | cons p ps ih=>simp only [sk,List.flatMap_cons,List.length_append,length_cons,List.length_nil] at ih⊢;omega
structure PS (h:ae) (v:Value) (ps:List (Int×Int)):Prop where
 len:bj v=some (I ps.length)
 get:∀k (hk:k<ps.length),∃i o,a9 2 v (I k)=some (pt i o)∧af false 1 h (pt i o)=some (I ps[k].1)∧af false 1 h (pt i (o+1))=some (I ps[k].2)∧
  af true 2 h (pt i o)=some (.agg #[I ps[k].1,I ps[k].2])
theorem PS.mono {h h':ae} {v:Value} {ps:List (Int×Int)} (k:EX h h') (p:PS h v ps):PS h' v ps:=
 ⟨p.len,fun j hj=>let ⟨i,o,a,b,c,d⟩:=p.get j hj;⟨i,o,a,EX.load k b,EX.load k c,EX.load k d⟩⟩
theorem PS.nil (h:ae):PS h (.slice none 0 0) []:=⟨rfl,fun k hk=>by simp at hk⟩
theorem PS.sl {h:ae} {e:TypeId} {i:Nat} {ps:List (Int×Int)} (hc:aQ h i=some (sk ps)):PS h (sl e i 0 ps.length) ps:=by
 refine ⟨rfl,fun k hk=>⟨i,2*k,?_,?_,?_,?_⟩⟩
 ·have:(0:Int)≤(k:Int)∧(k:Int)<(ps.length:Int):=by omega
  simp [Go.Sim.sl,a9,this,Nat.mul_comm]
 ·obtain ⟨g1,g2⟩:=KL (getElem?_eq_getElem hk)
  simp [af,hc,cf,g1]
 ·obtain ⟨g1,g2⟩:=KL (getElem?_eq_getElem hk)
  simp [af,hc,cf,g2]
 ·obtain ⟨g1,g2⟩:=KL (getElem?_eq_getElem hk)
  have hl:=akP ps
  have:((sk ps).drop (2*k)).take 2=[I ps[k].1,I ps[k].2]:=by
   apply List.ext_getElem?
   intro j
   rw [List.getElem?_take]
   match j with
   | 0=>simpa using g1
   | 1=>simpa using g2
   | j+2=>simp;omega
  have h2:2*k+2≤(sk ps).length:=by omega
  simp [af,hc,cf,this,h2]
def eJ (b:Nat) (hx:ae) (e:TypeId) (v:Value) (xs:List Value):Prop:=
 (v=.slice none 0 0∧xs=[])∨(∃i,b≤i∧v=sl e i 0 xs.length∧hx[i]?=some (.arr e xs))
theorem GW {h0 hx:ae} {e:TypeId} {bytes:Nat} {v x z:Value} {xs:List Value} {K:Value→ae→Prop} (o:eJ h0.length hx e v xs) (hex:EX h0 hx) (hb:(xs.length+1)*bytes≤140737488355328) (hm:xs.length+1≤maxLen)
  (h1:iM x=true) (h2:de x=[x]) (hk:∀v' bS,EX h0 bS→eJ h0.length bS e v' (xs++[x])→K v' bS):
  OH (cW e 1 [z] hx [(0,1,x)]) fun a h2=>OH (dM e 1 bytes h2 v a) K:=by
 have e1:cW e 1 [z] hx [(0,1,x)]=some (sl e hx.length 0 1,hx++[.arr e [x]]):=by
  simp [cW,sN,iS,h1,h2,setAt]
 rw [e1]
 simp only [aB]
 have e2:kU (hx++[.arr e [x]]) 1 (sl e hx.length 0 1)=some [x]:=by simp [kU,sl,aQ]
 have e3:qh (sl e hx.length 0 1)=some 1:=rfl
 rcases o with ⟨rfl,rfl⟩ | ⟨i,hi,rfl,bT⟩
 ·refine GK (v:=sl e (hx.length+1) 0 1) (h:=hx++[.arr e [x]]++[.arr e [x]]) ?_ (hk _ _ ((hex.push _).push _) (.inr ⟨hx.length+1,by have:=hex.1;omega,rfl,by simp⟩))
  have kI:1*bytes≤140737488355328:=by simpa using hb
  have fL:1≤maxLen:=by simpa using hm
  simp only [dM,e2,e3]
  rw [if_neg (by omega),if_pos ⟨kI,fL⟩]
  simp
 ·have aD:=(bD bT).1
  have hg:(hx++[.arr e [x]])[i]?=some (.arr e xs):=by rw [getElem?_append_left aD];exact bT
  refine GK (v:=sl e (hx.length+1) 0 (xs.length+1)) (h:=(hx++[aq.arr e [x]]).set i aq.dead++[aq.arr e (xs++[x])]) ?_
   (hk _ _ (((hex.push _).set hi _).push _) (.inr ⟨hx.length+1,by have:=hex.1;omega,by simp,?_⟩))
  ·simp only [dM,e2,e3]
   simp only [sl,hg]
   rw [if_pos ⟨trivial,trivial,by simp,hb,hm⟩,if_neg (by omega)]
   simp
  ·rw [List.getElem?_append_right (by simp)]
   simp
theorem yG {b:Nat} {hx:ae} {e:TypeId} {v:Value} {l:List UInt8} (o:eJ b hx e v (l.map cv)):rY hx v=some (S l):=by
 have hm:∀l:List UInt8,(l.map cv).mapM Du=some l:=by
  intro l
  induction l with
  | nil=>rfl
  | cons c l ih=>simp [List.mapM_cons,Du,ih]
 rcases o with ⟨rfl,hx⟩ | ⟨i,hi,rfl,bT⟩
 ·have:l=[]:=by simpa using hx
  subst this
  rfl
 ·by_cases hl:l=[]
  ·subst hl
   simp [rY,kU,sl]
  ·have hn:l.length≠0:=by simpa using hl
   have zH:¬(l.map cv).length=0:=by simpa using hl
   have ht:((l.map cv).drop 0).take ((l.map cv).length*1)=l.map cv:=by rw [List.drop_zero,Nat.mul_one,List.take_length]
   simp only [rY,kU,sl,if_neg zH,aQ,bT,bind_some]
   rw [if_pos (by omega),ht,bind_some,hm]
   rfl
structure SS (h:ae) (v:Value) (ls:List (List UInt8)):Prop where
 len:bj v=some (I ls.length)
 get:∀k (hk:k<ls.length),∃i o,a9 1 v (I k)=some (pt i o)∧af false 1 h (pt i o)=some (S ls[k])
theorem SS.mono {h h':ae} {v:Value} {ls:List (List UInt8)} (k:EX h h') (p:SS h v ls):SS h' v ls:=
 ⟨p.len,fun j hj=>let ⟨i,o,a,b⟩:=p.get j hj;⟨i,o,a,EX.load k b⟩⟩
theorem SS.sl {h:ae} {e:TypeId} {i:Nat} {ls:List (List UInt8)} (hc:aQ h i=some (ls.map S)):SS h (sl e i 0 ls.length) ls:=by
 refine ⟨rfl,fun k hk=>⟨i,k,?_,?_⟩⟩
 ·have:(0:Int)≤(k:Int)∧(k:Int)<(ls.length:Int):=by omega
  simp [Go.Sim.sl,a9,this]
 ·simp [af,hc,cf,hk]
theorem min2 (a b:Int):xQ false [I a,I b]=some (I (min a b)):=by
 simp only [xQ,List.foldlM,max2,false_eq_true,if_false]
 have:(if b<a then b else a)=min a b:=by split <;> omega
 rw [this]
 rfl
theorem azd (a b:Int):xQ true [I a,I b]=some (I (max a b)):=by
 simp only [xQ,List.foldlM,max2,if_true]
 have:(if b>a then b else a)=max a b:=by split <;> omega
 rw [this]
 rfl
theorem tm {h:ae} {e:TypeId} {xs:List Value} {j:Nat} {v:Value} (hj:xs[j]?=some v):af false 1 (h++[.arr e xs]) (pt h.length j)=some v:=by
 simp [af,aQ,cf,hj]
theorem aEF {v x:Value} (h:bj v=some x):iM v=true∧de v=[v]:=by
 unfold bj at h
 split at h
 ·exact ⟨rfl,rfl⟩
 ·cases h
theorem NS.Ak {h:ae} {v:Value} {l:List Nat} (p:NS h v .i64 (l.map fun i:Nat=>(i:Int))):bj v=some (I l.length):=by have:=p.len;rwa [length_map] at this
def CX (h h':ae):Prop:=∀d cs,aQ h d=some cs→aQ h' d=some cs
theorem CX.refl (h:ae):CX h h:=fun _ _ h=>h
theorem CX.load {h h':ae} (k:CX h h') {agg:Bool} {n:Nat} {a v:Value} (hl:af agg n h a=some v):af agg n h' a=some v:=by
 unfold af at hl⊢
 split at hl
 ·rename_i i o
  cases hc:aQ h i with
  | none=>rw [hc] at hl;cases hl
  | some xs=>rw [hc] at hl;rw [k _ _ hc];exact hl
 ·cases hl
theorem PS.Cl {h h':ae} {v:Value} {ps:List (Int×Int)} (k:CX h h') (p:PS h v ps):PS h' v ps:=
 ⟨p.len,fun j hj=>let ⟨i,o,a,b,c,d⟩:=p.get j hj;⟨i,o,a,k.load b,k.load c,k.load d⟩⟩
theorem NS.Cl {h h':ae} {v:Value} {k:IntKind} {ns:List Int} (e:CX h h') (p:NS h v k ns):NS h' v k ns:=
 ⟨p.len,fun j hj=>let ⟨i,o,a,b⟩:=p.get j hj;⟨i,o,a,e.load b⟩,p.le⟩
def XM (im:Nat) (h h':ae):Prop:=h.length≤h'.length∧∀d,d<h.length→d≠im→h'[d]?=h[d]?
theorem XM.refl (im:Nat) (h:ae):XM im h h:=⟨le_refl _,fun _ _ _=>rfl⟩
theorem XM.trans {im:Nat} {a b c:ae} (h:XM im a b) (k:XM im b c):XM im a c:=⟨Nat.le_trans h.1 k.1,fun d h1 h2=>(k.2 d (lt_of_lt_of_le h1 h.1) h2).trans (h.2 d h1 h2)⟩
theorem XM.ex {im:Nat} {a b:ae} (h:EX a b):XM im a b:=⟨h.1,fun d h1 _=>h.2 d h1⟩
theorem XM.set {im:Nat} {a b:ae} (h:XM im a b) (o:aq):XM im a (b.set im o):=⟨by simpa using h.1,fun d h1 h2=>by rw [List.getElem?_set_ne (by omega)];exact h.2 d h1 h2⟩
theorem XM.get {im:Nat} {a b:ae} (h:XM im a b) {d:Nat} {o:aq} (hd:d≠im) (hg:a[d]?=some o):b[d]?=some o:=by
 rw [h.2 d (bD hg).1 hd];exact hg
@[simp] theorem eO (a b : Value) : (#[a, b] : Array Value)[0]? = some a := rfl
@[simp] theorem eY (a b : Value) : (#[a, b] : Array Value)[1]? = some b := rfl
theorem br {h:ae} {o:aq}:(h++[o])[h.length]?=some o:=by simp
theorem aEr (xs:List Value) (o:Nat) (v:Value) (ho:o<xs.length):setAt xs o [v]=xs.set o v:=by
 unfold setAt
 rw [List.set_eq_take_append_cons_drop,if_pos ho]
 simp
theorem oL {h:ae} {i o:Nat} {e:TypeId} {xs:List Value} {v:Value} (hg:h[i]?=some (.arr e xs)) (ho:o<xs.length) (h1:iM v=true) (h2:de v=[v]):aG 1 h (pt i o) v=some (undef,h.set i (.arr e (xs.set o v))):=by
 simp only [aG,we,hg,h1,h2,aEr _ _ _ ho]
 rw [if_pos ⟨trivial,rfl,by omega⟩]
 rfl
theorem eJ.one {b:Nat} {hx:ae} {e:TypeId} {v:Value} {xs:List Value} (o:eJ b hx e v xs):iM v=true∧de v=[v]:=by
 rcases o with ⟨rfl,_⟩ | ⟨i,_,rfl,_⟩ <;> exact ⟨rfl,rfl⟩
theorem Dn {b:Nat} {hx:ae} {e:TypeId} {bytes:Nat} {v x z:Value} {xs:List Value} {K:Value→ae→Prop} (o:eJ b hx e v xs) (hb:(xs.length+1)*bytes≤140737488355328) (hm:xs.length+1≤maxLen)
  (h1:iM x=true) (h2:de x=[x]) (hk:∀h1 bS,h1=hx++[.arr e [x]]→bS.length=hx.length+2→(∀d,d<hx.length→(∀n,v≠sl e d 0 n)→bS[d]?=hx[d]?)→bS[hx.length+1]?=some (.arr e (xs++[x]))→OH (some (sl e (hx.length+1) 0 (xs.length+1),bS)) K):
  OH (cW e 1 [z] hx [(0,1,x)]) fun a h2=>OH (dM e 1 bytes h2 v a) K:=by
 have e1:cW e 1 [z] hx [(0,1,x)]=some (sl e hx.length 0 1,hx++[.arr e [x]]):=by
  simp [cW,sN,iS,h1,h2,setAt]
 rw [e1]
 simp only [aB]
 have e2:kU (hx++[.arr e [x]]) 1 (sl e hx.length 0 1)=some [x]:=by simp [kU,sl,aQ]
 have e3:qh (sl e hx.length 0 1)=some 1:=rfl
 rcases o with ⟨rfl,rfl⟩ | ⟨i,hi,rfl,bT⟩
 ·have kI:1*bytes≤140737488355328:=by simpa using hb
  have fL:1≤maxLen:=by simpa using hm
  have e4:dM e 1 bytes (hx++[.arr e [x]]) (.slice none 0 0) (sl e hx.length 0 1)=some (sl e (hx.length+1) 0 1,hx++[.arr e [x]]++[.arr e [x]]):=by
   simp only [dM,e2,e3]
   rw [if_neg (by omega),if_pos ⟨kI,fL⟩]
   simp
  rw [e4]
  refine hk _ _ rfl (by simp) (fun d hd _=>by rw [getElem?_append_left (by simp;omega),getElem?_append_left hd]) (by rw [List.getElem?_append_right (by simp)];simp)
 ·have aD:=(bD bT).1
  have hg:(hx++[.arr e [x]])[i]?=some (.arr e xs):=by rw [getElem?_append_left aD];exact bT
  have e4:dM e 1 bytes (hx++[.arr e [x]]) (sl e i 0 xs.length) (sl e hx.length 0 1)=some (sl e (hx.length+1) 0 (xs.length+1),(hx++[aq.arr e [x]]).set i aq.dead++[aq.arr e (xs++[x])]):=by
   simp only [dM,e2,e3]
   simp only [sl,hg]
   rw [if_pos ⟨trivial,trivial,by simp,hb,hm⟩,if_neg (by omega)]
   simp
  rw [e4]
  refine hk _ _ rfl (by simp) (fun d hd bk=>?_) (by rw [List.getElem?_append_right (by simp)];simp)
  have nG:i≠d:=by rintro rfl;exact bk _ rfl
  rw [getElem?_append_left (by simp;omega),List.getElem?_set_ne nG,getElem?_append_left hd]
theorem uJ {e e':TypeId} {i i' o o' n n':Nat} (h:sl e i o n=sl e' i' o' n'):i=i'∧n=n':=by
 unfold sl at h
 injection h with h1 h2
 injection h1 with h1
 injection h1 with h1
 exact ⟨h1,h2⟩
theorem eJ.dH {b:Nat} {g g':ae} {e:TypeId} {v:Value} {xs:List Value} (o:eJ b g e v xs) (h:∀d n,v=sl e d 0 n→b≤d→g'[d]?=g[d]?):eJ b g' e v xs:=by
 rcases o with ⟨h1,h2⟩ | ⟨i,h1,h2,h3⟩
 ·exact .inl ⟨h1,h2⟩
 ·exact .inr ⟨i,h1,h2,by rw [h i _ h2 h1];exact h3⟩
theorem eJ.lt {b:Nat} {g:ae} {e:TypeId} {v:Value} {xs:List Value} {d n:Nat} (o:eJ b g e v xs) (h:v=sl e d 0 n):b≤d∧d<g.length∧g[d]?=some (.arr e xs):=by
 rcases o with ⟨h1,_⟩ | ⟨i,h1,h2,h3⟩
 ·rw [h1] at h;cases h
 ·rw [h2] at h
  obtain ⟨rfl,_⟩:=uJ h
  exact ⟨h1,(bD h3).1,h3⟩
theorem mQ {e:TypeId} {id n j:Nat} (hj:j<n):a9 1 (sl e id 0 n) (I j)=some (pt id j):=by
 have:(0:Int)≤(j:Int)∧(j:Int)<(n:Int):=by omega
 simp [sl,a9,this]
theorem ck {h:ae} {i:Nat} {o o':aq} (hg:h[i]?=some o'):(h.set i o)[i]?=some o:=by
 rw [List.getElem?_set_self (bD hg).1]
theorem acg {P:Program} {F:FuncId} {cap:Array Value} {args:List Value} {h:ae} {K:Value→ae→Prop} (hF:rG P F=true) (hc:ak P F (args++cap.toList) h K):uZ P (.func (.func F) #[] cap) args h K:=by
 rw [uY] at hc
 exact ⟨⟨hF,by simpa using hc⟩⟩
theorem CX.trans {a b c:ae} (h:CX a b) (k:CX b c):CX a c:=fun d cs hd=>k d cs (h d cs hd)
theorem CX.ex {a b:ae} (h:EX a b):CX a b:=fun _ _ hd=>h.cells hd
theorem CX.mb {g:ae} {im mj pM:Nat} {k k':fR} {es og:List (Nat×Value×Value)} (hg:g[im]?=some (.di k mj es)):CX g (g.set im (.di k' pM og)):=by
 intro d cs hd
 by_cases e:d=im
 ·subst e;simp [aQ,hg] at hd
 ·unfold aQ at hd⊢
  rw [List.getElem?_set_ne (fun x=>e x.symm)]
  exact hd
end
section
theorem XM.cx {im:Nat} {a b:ae} (h:XM im a b) {kd:IntKind} {es:List (Int×Value)} (hm:a[im]?=some (.kQ kd es)):CX a b:=by
 intro d cs hc
 have hd:d≠im:=by
  rintro rfl
  simp [aQ,hm] at hc
 have hl:d<a.length:=by
  apply byContradiction
  intro cE
  rw [aQ,List.getElem?_eq_none (by omega)] at hc
  cases hc
 simpa [aQ,h.2 d hl hd] using hc
theorem XM.FV {im:Nat} {a h h':ae} (k:EX a h) (iH:a.length≤im) (x:XM im h h'):EX a h':=
 ⟨Nat.le_trans k.1 x.1,fun d hd=>by rw [x.2 d (lt_of_lt_of_le hd k.1) (by omega)];exact k.2 d hd⟩
def IS (h:ae) (e:TypeId) (aW:Nat) (v:Value) (cs:List Value) (n:Nat):Prop:=
 cs.length=n*aW∧((v=.slice none 0 0∧n=0)∨∃i,v=sl e i 0 n∧(n=0∨aQ h i=some cs))
theorem IS.mono {h h':ae} {e:TypeId} {aW:Nat} {v:Value} {cs:List Value} {n:Nat} (k:EX h h') (p:IS h e aW v cs n):IS h' e aW v cs n:=
 ⟨p.1,p.2.imp id fun ⟨i,a,b⟩=>⟨i,a,b.imp id fun b=>k.cells b⟩⟩
theorem IS.len {h:ae} {e:TypeId} {aW:Nat} {v:Value} {cs:List Value} {n:Nat} (p:IS h e aW v cs n):bj v=some (I n):=by
 rcases p.2 with ⟨rfl,rfl⟩ | ⟨i,rfl,_⟩ <;> rfl
theorem IS.part {h:ae} {e:TypeId} {aW:Nat} {v:Value} {cs:List Value} {n m:Nat} (p:IS h e aW v cs n) (hm:m≤n):
  ∃v',mD e aW v none (some (I m))=some v'∧kU h aW v'=some (cs.take (m*aW))∧qh v'=some m:=by
 obtain ⟨hl,hv⟩:=p
 rcases hv with ⟨rfl,rfl⟩ | ⟨i,rfl,hc⟩
 ·have:m=0:=by omega
  subst this
  exact ⟨.slice none 0 0,rfl,by simp [kU],rfl⟩
 ·refine ⟨sl e i 0 m,?_,?_,rfl⟩
  ·have h1:(0:Int)≤(m:Int):=by omega
   simp [mD,sl,rZ,tu,h1,hm]
  ·simp only [kU,sl]
   by_cases h0:m=0
   ·rw [if_pos h0,h0];simp
   ·have hc:=hc.resolve_left (by omega)
    have hle:m*aW≤n*aW:=Nat.mul_le_mul_right _ hm
    rw [if_neg h0,hc,bind_some,if_pos (by omega)]
    simp
def Gl (h:ae) (e:TypeId) (v:Value) (ps:List (Int×Int)):Prop:=IS h e 2 v (sk ps) ps.length
theorem Gl.ps {h:ae} {e:TypeId} {v:Value} {ps:List (Int×Int)} (p:Gl h e v ps):PS h v ps:=by
 rcases p.2 with ⟨rfl,h0⟩ | ⟨i,rfl,hc⟩
 ·have:ps=[]:=List.length_eq_zero_iff.1 h0
  subst this
  exact PS.nil h
 ·by_cases h0:ps.length=0
  ·have:ps=[]:=List.length_eq_zero_iff.1 h0
   subst this
   exact ⟨rfl,fun k hk=>by simp at hk⟩
  ·exact PS.sl (hc.resolve_left h0)
def W4 (h:ae) (e:TypeId) (k:IntKind) (v:Value) (ns:List Int):Prop:=IS h e 1 v (ns.map (Value.int k)) ns.length
theorem W4.ns {h:ae} {e:TypeId} {k:IntKind} {v:Value} {ns:List Int} (p:W4 h e k v ns) (hl:ns.length≤maxLen):NS h v k ns:=by
 rcases p.2 with ⟨rfl,h0⟩ | ⟨i,rfl,hc⟩
 ·have:ns=[]:=List.length_eq_zero_iff.1 h0
  subst this
  exact NS.nil h k
 ·exact NS.sl (hc.imp (fun h=>List.length_eq_zero_iff.1 h) id) hl
theorem PS.arr {h:ae} {e:TypeId} {i:Nat} {ps:List (Int×Int)} (hg:h[i]?=some (.arr e (sk ps))):PS h (Go.Sim.sl e i 0 ps.length) ps:=PS.sl (by simp [aQ,hg])
theorem NS.arr {h:ae} {e:TypeId} {i:Nat} {k:IntKind} {ns:List Int} (hg:h[i]?=some (.arr e (ns.map (Value.int k)))) (hl:ns.length≤maxLen):NS h (Go.Sim.sl e i 0 ns.length) k ns:=NS.sl (.inr (by simp [aQ,hg])) hl
end
section
abbrev Gj:=Option (Exit×(Nat→Value)×ae)
abbrev kX:=Fn→List Value→ae→Option (Value×ae)
def LF:Value→Value→Bool
 | .int k a,.int k' b=>decide (k=k')&&decide (a=b)
 | .bool a,.bool b=>a==b
 | .string s,.string t=>decide (bytes s=bytes t)
 | .pointer (some ⟨i,o,none⟩),.pointer (some ⟨j,p,none⟩)=>Nat.beq i j&&Nat.beq o p
 | .slice none a b,.slice none c d=>Nat.beq a c&&Nat.beq b d
 | .slice (some ⟨i,o,some e⟩) a b,.slice (some ⟨j,p,some e'⟩) c d=>Nat.beq i j&&Nat.beq o p&&Nat.beq e e'&&Nat.beq a c&&Nat.beq b d
 | _,_=>false
theorem amH {a b:Value} (h:LF a b=true):a=b:=by
 unfold LF at h
 split at h
 ·simp at h;rw [h.1,h.2]
 ·simp at h;rw [h]
 ·rename_i s t
  simp at h
  have:=E9 s
  rw [h,E9] at this
  rw [this]
 ·simp only [and_eq_true] at h
  rw [eq_of_beq_eq_true h.1,eq_of_beq_eq_true h.2]
 ·simp only [and_eq_true] at h
  rw [eq_of_beq_eq_true h.1,eq_of_beq_eq_true h.2]
 ·simp only [and_eq_true] at h
  obtain ⟨⟨⟨⟨h1,h2⟩,h3⟩,h4⟩,h5⟩:=h
  rw [eq_of_beq_eq_true h1,eq_of_beq_eq_true h2,eq_of_beq_eq_true h3,eq_of_beq_eq_true h4,eq_of_beq_eq_true h5]
 ·cases h
def yh:List Value→List Value→Bool
 | [],[]=>true
 | x::xs,y::ys=>LF x y&&yh xs ys
 | _,_=>false
theorem CP:∀{xs ys:List Value},yh xs ys=true→xs=ys
 | [],[],_=>rfl
 | x::xs,y::ys,h=>by
  simp only [yh,and_eq_true] at h
  rw [amH h.1,CP h.2]
 | [],_::_,h=>by cases h
 | _::_,[],h=>by cases h
def LD:Value→Value→Bool
 | .agg xs,.agg ys=>yh xs.toList ys.toList
 | a,b=>LF a b
theorem amI {a b:Value} (h:LD a b=true):a=b:=by
 unfold LD at h
 split at h
 ·rw [Array.ext' (CP h)]
 ·exact amH h
def uE (P:Program) (call:kX) (io:gW) (f:Nat→Value) (h:ae):Option (Value×ae):=
 match io with
 | .p o=>match jB o (ev f) with | some v=>some (v,h) | none=>none
 | .l o=>match fC o (ev f) h with | some v=>some (v,h) | none=>none
 | .e o=>gj o (ev f) h
 | .call g args=>call (.func g) (args.map (ev f)) h
 | .kY x args=>
  match ev f x with
  | .func (.func g) first cap=>if rG P g=true then call (.func g) (first.toList++args.map (ev f)++cap.toList) h else none
  | .func (.yield i) first cap=>if first.size=0∧cap.size=0 then call (.yield i) (args.map (ev f)) h else none
  | _=>none
structure sG (P:Program) (call:kX):Prop where
 fn:∀F args h v h',call (.func F) args h=some (v,h')→wT P F args h v h'
 yi:∀i args h v h',call (.yield i) args h=some (v,h')→Mf P i args h v h'
section
variable {P : Program} {call : kX} (HC : sG P call)
include HC
theorem Fl {io:gW} {f:Nat→Value} {h h':ae} {v:Value} {K:Value→ae→Prop} (he:uE P call io f h=some (v,h')) (hk:K v h'):dd P io f h K:=by
 cases io with
 | p o=>
  simp only [uE] at he
  split at he
  ·rename_i u hu
   simp at he
   obtain ⟨rfl,rfl⟩:=he
   simp [dd,fD,hu,hk]
  ·cases he
 | l o=>
  simp only [uE] at he
  split at he
  ·rename_i u hu
   simp at he
   obtain ⟨rfl,rfl⟩:=he
   simp [dd,fD,hu,hk]
  ·cases he
 | e o=>
  simp only [uE] at he
  simp [dd,nQ,he,hk]
 | call g args=>exact ⟨v,h',HC.fn _ _ _ _ _ he,hk⟩
 | kY x args=>
  simp only [uE] at he
  simp only [dd,tQ]
  split at he
  ·rename_i g first cap hx
   rw [hx]
   split at he
   ·rename_i mV
    exact ⟨mV,v,h',HC.fn _ _ _ _ _ he,hk⟩
   ·cases he
  ·rename_i i first cap hx
   rw [hx]
   split at he
   ·rename_i hs
    exact ⟨⟨Array.eq_empty_of_size_eq_zero hs.1,Array.eq_empty_of_size_eq_zero hs.2⟩,v,h',HC.yi _ _ _ _ _ he,hk⟩
   ·cases he
  ·cases he
end
def Bs (P:Program) (call:kX):List jf→(Nat→Value)→ae→Option ((Nat→Value)×ae)
 | [],f,h=>some (f,h)
 | o::os,f,h=>match uE P call o.op f h with | some (v,h')=>Bs P call os (dG f o.dst v) h' | none=>none
def S9 (P:Program) (call:kX) (g:Option (Nat×Bool)) (l:List jf) (f:Nat→Value) (h:ae):Option ((Nat→Value)×ae):=
 match g with
 | none=>Bs P call l f h
 | some (s,b)=>match f s with
  | .bool c=>if (c==b)=true then Bs P call l f h else some (CO l f,h)
  | .complex _ _ _=>none
  | _=>some (CO l f,h)
def FE (pre:Nat) (lo:pH) (f:Nat→Value) (v:Value):List (Nat×ae)→Bool
 | []=>true
 | (e,H)::r=>if pre.testBit e=true then FE pre lo f v r else (match fC lo (ev f) H with | some u=>LD u v | none=>false)&&FE pre lo f v r
def yU (pre:Nat) (H:ae):eK→Bool
 | []=>true
 | (j,lo,f,v)::r=>if pre.testBit j=true then yU pre H r else (match fC lo (ev f) H with | some u=>LD u v | none=>false)&&yU pre H r
theorem UG {pre:Nat} {lo:pH} {f:Nat→Value} {v:Value}:∀{l:List (Nat×ae)},FE pre lo f v l=true→xa pre lo f v l
 | [],_=>trivial
 | (e,H)::r,h=>by
  simp only [FE] at h
  simp only [xa]
  split at h
  ·rename_i hb;rw [if_pos hb];exact UG h
  ·rename_i hb
   rw [if_neg hb]
   simp only [and_eq_true] at h
   refine ⟨?_,UG h.2⟩
   have h1:=h.1
   split at h1
   ·rename_i u hu;rw [hu,amI h1]
   ·cases h1
theorem yV {pre:Nat} {H:ae}:∀{l:eK},yU pre H l=true→lM pre H l
 | [],_=>trivial
 | (j,lo,f,v)::r,h=>by
  simp only [yU] at h
  simp only [lM]
  split at h
  ·rename_i hb;rw [if_pos hb];exact yV h
  ·rename_i hb
   rw [if_neg hb]
   simp only [and_eq_true] at h
   refine ⟨?_,yV h.2⟩
   have h1:=h.1
   split at h1
   ·rename_i u hu;rw [hu,amI h1]
   ·cases h1
abbrev W2:=Option (List (Nat×ae)×eK×(Nat→Value)×ae)
def vE (P:Program) (call:kX):List kh→Nat→List (Nat×ae)→eK→(Nat→Value)→ae→W2
 | [],_,aN,aJ,f,h=>some (aN,aJ,f,h)
 | o::os,j,aN,aJ,f,h=>
  match uE P call o.op f h with
  | some (v,h')=>
   match o.op with
   | .p _=>vE P call os (j+1) aN aJ (dG f o.dst v) h'
   | .l lo=>if FE o.pre lo f v aN=true then vE P call os (j+1) aN (aJ++[(j,lo,f,v)]) (dG f o.dst v) h' else none
   | .e (.fl _)=>
    match eL h' v with
    | some u=>if yU o.pre h' aJ=true then vE P call os (j+1) (aN++[(j,h)]) (aJ++[(j,.obj (.const v),f,u)]) (dG f o.dst v) h' else none
    | none=>none
   | _=>if yU o.pre h' aJ=true then vE P call os (j+1) (aN++[(j,h)]) aJ (dG f o.dst v) h' else none
  | none=>none
def Bq:List kh→Nat→List (Nat×ae)→eK→(Nat→Value)→ae→W2
 | [],_,aN,aJ,f,h=>some (aN,aJ,f,h)
 | o::os,j,aN,aJ,f,h=>
  match o.op.dF with
  | false=>Bq os (j+1) aN aJ (dG f o.dst undef) h
  | true=>if yU o.pre h aJ=true then Bq os (j+1) (aN++[(j,h)]) aJ (dG f o.dst undef) h else none
def yX (P:Program) (call:kX):List (Option (Nat×Bool)×List kh)→Nat→List (Nat×ae)→eK→(Nat→Value)→ae→Option ((Nat→Value)×ae)
 | [],_,_,_,f,h=>some (f,h)
 | (none,l)::gs,j,aN,aJ,f,h=>
  match vE P call l j aN aJ f h with
  | some (aN,aJ,f,h)=>yX P call gs (j+l.length) aN aJ f h
  | none=>none
 | (some (s,b),l)::gs,j,aN,aJ,f,h=>
  match f s with
  | .bool c=>
   match (if (c==b)=true then vE P call l j aN aJ f h else Bq l j aN aJ f h) with
   | some (aN,aJ,f,h)=>yX P call gs (j+l.length) aN aJ f h
   | none=>none
  | _=>none
section
variable {P : Program} {call : kX} (HC : sG P call)
include HC in
theorem QC:∀{l:List jf} {f f':Nat→Value} {h h':ae} {K:(Nat→Value)→ae→Prop},Bs P call l f h=some (f',h')→K f' h'→xr P l K f h
 | [],f,f',h,h',K,he,hk=>by simp [Bs] at he;obtain ⟨rfl,rfl⟩:=he;exact hk
 | o::os,f,f',h,h',K,he,hk=>by
  simp only [Bs] at he
  split at he
  ·rename_i v h1 ho
   exact Fl HC ho (QC he hk)
  ·cases he
include HC in
theorem azR {g:Option (Nat×Bool)} {l:List jf} {f f':Nat→Value} {h h':ae} {K:(Nat→Value)→ae→Prop} (he:S9 P call g l f h=some (f',h')) (hk:K f' h'):tA P g l K f h:=by
 cases g with
 | none=>exact QC HC he hk
 | some sb=>
  obtain ⟨s,b⟩:=sb
  simp only [S9] at he
  simp only [tA,kH]
  split at he
  ·rename_i c hc
   rw [hc]
   simp only
   split at he
   ·rename_i hb;rw [if_pos hb];exact QC HC he hk
   ·rename_i hb;rw [if_neg hb];simp at he;obtain ⟨rfl,rfl⟩:=he;exact hk
  ·cases he
  ·rename_i h1 h2
   simp at he
   obtain ⟨rfl,rfl⟩:=he
   split
   ·rename_i c hc;exact absurd hc (h1 c)
   ·rename_i a b c hc;exact absurd hc (h2 a b c)
   ·exact hk
include HC in
theorem xq:∀{l:List kh} {j:Nat} {aN pS:List (Nat×ae)} {aJ pz:eK} {f f':Nat→Value} {h h':ae} {K:List (Nat×ae)→eK→(Nat→Value)→ae→Prop},
  vE P call l j aN aJ f h=some (pS,pz,f',h')→K pS pz f' h'→pb P l j aN aJ K f h
 | [],j,aN,pS,aJ,pz,f,f',h,h',K,he,hk=>by simp [vE] at he;obtain ⟨rfl,rfl,rfl,rfl⟩:=he;exact hk
 | o::os,j,aN,pS,aJ,pz,f,f',h,h',K,he,hk=>by
  simp only [vE] at he
  simp only [pb]
  split at he
  ·rename_i v h1 ho
   cases cZ:o.op with
   | p po=>
    rw [cZ] at ho he
    simp only at he
    have:=Fl (K:=fun v h'=>pb P os (j+1) aN aJ K (dG f o.dst v) h') HC ho (xq he hk)
    simp only [kZ]
    simp only [dd] at this
    simp only [uE] at ho
    split at ho
    ·rename_i u hu
     simp at ho
     obtain ⟨rfl,rfl⟩:=ho
     exact this
    ·cases ho
   | l lo=>
    rw [cZ] at ho he
    simp only at he
    split at he
    ·rename_i hp
     simp only [uE] at ho
     split at ho
     ·rename_i u hu
      simp at ho
      obtain ⟨rfl,rfl⟩:=ho
      simp only [kZ,fD,hu]
      exact ⟨UG hp,xq he hk⟩
     ·cases ho
    ·cases he
   | e eo=>
    cases eo with
    | fl a=>
     rw [cZ] at ho he
     simp only at he
     split at he
     ·rename_i u hu
      split at he
      ·rename_i hp
       simp only [uE] at ho
       simp only [kZ,ho,nQ,hu,fD]
       exact ⟨yV hp,xq he hk⟩
      ·cases he
     ·cases he
    | _=>
    rw [cZ] at ho he
    simp only at he
    split at he
    ·rename_i hp
     exact Fl (io:=.e _) (K:=fun v h'=>lM o.pre h' aJ∧pb P os (j+1) (aN++[(j,h)]) aJ K (dG f o.dst v) h') HC ho ⟨yV hp,xq he hk⟩
    ·cases he
   | call g args=>
    rw [cZ] at ho he
    simp only at he
    split at he
    ·rename_i hp
     exact Fl (io:=.call g args) (K:=fun v h'=>lM o.pre h' aJ∧pb P os (j+1) (aN++[(j,h)]) aJ K (dG f o.dst v) h') HC ho ⟨yV hp,xq he hk⟩
    ·cases he
   | kY x args=>
    rw [cZ] at ho he
    simp only at he
    split at he
    ·rename_i hp
     exact Fl (io:=.kY x args) (K:=fun v h'=>lM o.pre h' aJ∧pb P os (j+1) (aN++[(j,h)]) aJ K (dG f o.dst v) h') HC ho ⟨yV hp,xq he hk⟩
    ·cases he
  ·cases he
theorem Qv:∀{l:List kh} {j:Nat} {aN pS:List (Nat×ae)} {aJ pz:eK} {f f':Nat→Value} {h h':ae} {K:List (Nat×ae)→eK→(Nat→Value)→ae→Prop},
  Bq l j aN aJ f h=some (pS,pz,f',h')→K pS pz f' h'→vF l j aN aJ K f h
 | [],j,aN,pS,aJ,pz,f,f',h,h',K,he,hk=>by simp [Bq] at he;obtain ⟨rfl,rfl,rfl,rfl⟩:=he;exact hk
 | o::os,j,aN,pS,aJ,pz,f,f',h,h',K,he,hk=>by
  simp only [Bq] at he
  simp only [vF,xf]
  cases ho:o.op.dF with
  | false=>rw [ho] at he;exact Qv he hk
  | true=>
   rw [ho] at he
   simp only at he
   split at he
   ·rename_i hp;exact ⟨yV hp,Qv he hk⟩
   ·cases he
include HC in
theorem IP:∀{gs:List (Option (Nat×Bool)×List kh)} {j:Nat} {aN:List (Nat×ae)} {aJ:eK} {f f':Nat→Value} {h h':ae} {K:(Nat→Value)→ae→Prop},
  yX P call gs j aN aJ f h=some (f',h')→K f' h'→ow P gs j aN aJ K f h
 | [],j,aN,aJ,f,f',h,h',K,he,hk=>by simp [yX] at he;obtain ⟨rfl,rfl⟩:=he;exact hk
 | (none,l)::gs,j,aN,aJ,f,f',h,h',K,he,hk=>by
  simp only [yX] at he
  simp only [ow]
  split at he
  ·rename_i hs ls f1 h1 hr
   exact xq HC hr (IP he hk)
  ·cases he
 | (some (s,b),l)::gs,j,aN,aJ,f,f',h,h',K,he,hk=>by
  simp only [yX] at he
  simp only [ow,kH]
  split at he
  ·rename_i c hc
   rw [hc]
   simp only
   split at he
   ·rename_i hs ls f1 h1 hr
    split at hr
    ·rename_i hb;rw [if_pos hb];exact xq HC hr (IP he hk)
    ·rename_i hb;rw [if_neg hb];exact Qv hr (IP he hk)
   ·cases he
  ·cases he
end
def An (body:(Nat→Value)→ae→Gj) (ls:List Nat):Nat→List Value→ae→Gj
 | 0,_,_=>none
 | n+1,xs,h=>match body (kA ls xs) h with
  | some (.normal,f',h')=>An body ls n (ls.map f') h'
  | r=>r
def Sc (h:ae) (i:Nat):Bool:=match h[i]? with | some (.loop _ _ _)=>true | _=>false
def JB (h:ae) (i:Nat):Bool:=match h[i]? with | some .dead=>true | _=>false
noncomputable def lO (P:Program) (call:kX) (n:Nat) (c:fa):(Nat→Value)→ae→Gj:=
 fa.rec (motive:=fun _=>(Nat→Value)→ae→Gj)
  (fun f h=>some (.normal,f,h))
  (fun l f h=>match yX P call l 0 [] [] f h with | some (f',h')=>some (.normal,f',h') | none=>none)
  (fun g l f h=>match S9 P call g l f h with | some (f',h')=>some (.normal,f',h') | none=>none)
  (fun _ _ ea eb f h=>match ea f h with | some (.normal,f',h')=>eb f' h' | r=>r)
  (fun ls _ ec f h=>ec (kA ls (ls.map f)) h)
  (fun c _ _ ea eb f h=>match ev f c with | .bool true=>ea f h | .bool false=>eb f h | _=>none)
  (fun id _ ec f h=>match ec f h with | some (.exit i,f',h')=>if i=id then some (.normal,f',h') else some (.exit i,f',h') | r=>r)
  (fun ks ls _ ec f h=>match ks with | []=>An ec ls n (ls.map f) h | _=>none)
  (fun id f h=>some (.exit id,f,h))
  (fun f h=>some (.ret,f,h))
  (fun g ls c f h=>match ev f g with
   | .func (.func F) first cap=>
    if rG P F=true then
     match call (.func F) (first.toList++[.func (.yield h.length) #[] #[]]++cap.toList) (h++[.loop c ls (ls.map f)]) with
     | some (_,h')=>if Sc h' h.length=true then some (.normal,f,h'.set h.length .dead) else none
     | none=>none
    else none
   | _=>none) c
theorem ayY {p:Nat→Prop}:∀n,p n→∃m,p m∧∀k,p k→m≤k:=by
 intro n
 induction n using Nat.strongRecOn with
 | _ n ih=>
  intro hn
  by_cases h:∃m,m<n∧p m
  ·obtain ⟨m,h1,h2⟩:=h;exact ih m h1 h2
  ·exact ⟨n,hn,fun k hk=>Nat.le_of_not_lt fun aD=>h ⟨k,aD,hk⟩⟩
theorem axY {h:ae} {i:Nat} (hl:Sc h i=true):∃c ls vs,h[i]?=some (.loop c ls vs):=by
 unfold Sc at hl
 split at hl
 ·rename_i c ls vs hh;exact ⟨c,ls,vs,hh⟩
 ·cases hl
theorem afi {h:ae} {i:Nat} (hl:JB h i=true):h[i]?=some .dead:=by
 unfold JB at hl
 split at hl
 ·assumption
 ·cases hl
theorem P6 {P:Program} {call:kX} (HC:sG P call) {n:Nat} {c:fa}:∀{f f':Nat→Value} {h h':ae} {e:Exit} {K:ar},lO P call n c f h=some (e,f',h')→K e f' h'→iZ P c K f h:=by
 induction c with
 | skip=>intro f f' h h' e K he hk;simp [lO] at he;obtain ⟨rfl,rfl,rfl⟩:=he;exact hk
 | Iy l=>
  intro f f' h h' e K he hk
  simp only [lO] at he
  split at he
  ·rename_i f1 h1 hg
   simp at he
   obtain ⟨rfl,rfl,rfl⟩:=he
   exact IP HC hg hk
  ·cases he
 | ops g l=>
  intro f f' h h' e K he hk
  simp only [lO] at he
  split at he
  ·rename_i f1 h1 hg
   simp at he
   obtain ⟨rfl,rfl,rfl⟩:=he
   exact azR HC hg hk
  ·cases he
 | seq a b sf tg=>
  intro f f' h h' e K he hk
  have fK:(match lO P call n a f h with | some (.normal,f',h')=>lO P call n b f' h' | r=>r)=some (e,f',h'):=he
  show iZ P a (aF (iZ P b K) K) f h
  split at fK
  ·rename_i f1 h1 h2
   exact sf h2 (tg fK hk)
  ·rename_i h1
   refine sf fK ?_
   cases e <;> first | exact hk | exact absurd fK (h1 _ _)
 | cut ls c ih=>intro f f' h h' e K he hk;exact ih (K:=K) he hk
 | cond c a b sf tg=>
  intro f f' h h' e K he hk
  have fK:(match ev f c with | .bool true=>lO P call n a f h | .bool false=>lO P call n b f h | _=>none)=some (e,f',h'):=he
  rw [afn]
  split at fK
  ·rename_i hc;rw [hc];exact sf fK hk
  ·rename_i hc;rw [hc];exact tg fK hk
  ·cases fK
 | block id c ih=>
  intro f f' h h' e K he hk
  have fK:(match lO P call n c f h with | some (.exit i,f',h')=>if i=id then some (.normal,f',h') else some (.exit i,f',h') | r=>r)=some (e,f',h'):=he
  show iZ P c (bO id K) f h
  split at fK
  ·rename_i i f1 h1 h2
   refine ih h2 ?_
   simp only [bO]
   split at fK
   ·rename_i iH;simp at fK;obtain ⟨rfl,rfl,rfl⟩:=fK;rw [if_pos iH];exact hk
   ·rename_i iH;simp at fK;obtain ⟨rfl,rfl,rfl⟩:=fK;rw [if_neg iH];exact hk
  ·rename_i h1
   refine ih fK ?_
   cases e with
   | exit i=>exact absurd fK (h1 _ _ _)
   | _=>exact hk
 | loop ks ls c ih=>
  intro f f' h h' e K he hk
  cases ks with
  | cons k ks=>cases he
  | nil=>
   have fK:An (lO P call n c) ls n (ls.map f) h=some (e,f',h'):=he
   show Ao (ls.map f) h fun L xs hx=>iZ P c (aF (fun f' aT=>([]:List Nat).map f'=[].map f∧L (ls.map f') aT) K) (kA ([]++ls) (([]:List Nat).map f++xs)) hx
   let J:List Value→ae→Prop:=fun ys hy=>∃m,An (lO P call n c) ls m ys hy=some (e,f',h')
   have least:∀ys hy,J ys hy→∃m,An (lO P call n c) ls m ys hy=some (e,f',h')∧∀k,An (lO P call n c) ls k ys hy=some (e,f',h')→m≤k:=fun ys hy ⟨m,hm⟩=>ayY m hm
   classical
   let μ:List Value→ae→Nat:=fun ys hy=>if hJ:J ys hy then Classical.choose (least ys hy hJ) else 0
   refine ⟨J,μ,⟨n,fK⟩,?_⟩
   intro xs hx hJ
   have EF:=Classical.choose_spec (least xs hx hJ)
   have hμ:μ xs hx=Classical.choose (least xs hx hJ):=dif_pos hJ
   rw [←hμ] at EF
   obtain ⟨h1,h2⟩:=EF
   generalize μ xs hx=m at h1 h2
   cases m with
   | zero=>cases h1
   | succ m=>
    simp only [An] at h1
    simp only [List.map_nil,List.nil_append]
    split at h1
    ·rename_i f1 g1 hb
     refine ih hb ?_
     refine ⟨trivial,⟨m,h1⟩,?_⟩
     have Bw:J (ls.map f1) g1:=⟨m,h1⟩
     have dX:=Classical.choose_spec (least _ _ Bw)
     have axF:μ (ls.map f1) g1=Classical.choose (least _ _ Bw):=dif_pos Bw
     rw [axF]
     exact Nat.lt_succ_of_le (dX.2 m h1)
    ·rename_i hn
     refine ih h1 ?_
     cases e with
     | normal=>exact absurd h1 (hn _ _)
     | _=>exact hk
 | exit id=>intro f f' h h' e K he hk;simp [lO] at he;obtain ⟨rfl,rfl,rfl⟩:=he;exact hk
 | ret=>intro f f' h h' e K he hk;simp [lO] at he;obtain ⟨rfl,rfl,rfl⟩:=he;exact hk
 | range g ls c=>
  intro f f' h h' e K he hk
  simp only [lO] at he
  show uH P (ev f g) ls (ls.map f) c h (K .normal f)
  unfold uH
  split at he
  ·rename_i F first cap hg
   rw [hg]
   split at he
   ·rename_i mV
    split at he
    ·rename_i v h1 hc
     split at he
     ·rename_i hl
      simp at he
      obtain ⟨rfl,rfl,rfl⟩:=he
      exact ⟨mV,v,h1,HC.fn _ _ _ _ _ hc,axY hl,hk⟩
     ·cases he
    ·cases he
   ·cases he
  ·cases he
theorem K4:∀{rs:List kG} {f:Nat→Value} {h:ae} {vs:List Value} {k:List Value→Prop},pq rs f h=some vs→k vs→wH rs f h k
 | [],f,h,vs,k,he,hk=>by simp [pq] at he;subst he;exact hk
 | .tmp t::rs,f,h,vs,k,he,hk=>by
  simp only [pq,xT] at he
  split at he
  ·rename_i v ju h1 h2
   simp only [Option.some.injEq] at h1 he
   subst h1
   subst he
   exact K4 (rs:=rs) h2 hk
  ·cases he
 | .cell agg n a::rs,f,h,vs,k,he,hk=>by
  simp only [pq,xT] at he
  split at he
  ·rename_i v ju h1 h2
   simp at he
   subst he
   simp only [wH,fD,h1]
   exact K4 h2 hk
  ·cases he
end
end Go.Sim
namespace Go.Proofs.YtelmdbpaoifmoaaGreat
open Go.Sim
section
def evH:FuncId→Hints
 | 11=>[[],[],[],[],[0,3,4],[0,3,4,12],[0,3,4,12,14],[],[],[],[],[],[0,3,4,5,6],[0,3,4,5,6,32],[0,3,4,5,6,32,34],[],[],[],[0,3,4,5],[0,3,4],[3],[]]
 | 12=>[[],[],[],[],[1,7,25],[1,7,25,32],[],[],[],[],[],[],[],[],[]]
 | 13=>[[],[],[],[],[0,3,4],[],[],[],[],[],[0,3,4,5,6],[],[],[],[],[],[0,3,4,5],[0,3,4,5,44],[0,3,4,5,44,51],[],[],[],[],[],[0,3,4,5,7],[],[],[],[0,3,4,5,7,8,82],[0,3,4,5,7,8,82,86],[0,3,4,5,7,8,88],[0,3,4,5,7,8,88,98],[0,3,4,5,7,8,88,98,102],[0,3,4,5,7,8,88,103],[],[0,3,4,5,7],[0,3,4,5],[],[0,3,4],[0,3],[],[3],[]]
 | 14=>[[],[],[],[],[],[],[],[3,4,5,6,8,9,10,11,12,46],[4,5,6,8,9,10,11,12,46,48],[4,5,6,8,9,10,11,12,50],[5,6,8,9,10,11,12,50,52],[5,6,8,9,10,11,12,54],[6,8,9,10,11,12,54,58],[6,8,9,10,11,12,60],[8,9,10,11,12,60,62],[8,9,10,11,12,64],[9,10,11,12,64,66],[9,10,11,12,68],[10,11,12,68,70],[10,11,12,72],[11,12,72,74],[11,12,76],[12,76,78],[12,80],[80,82],[]]
 | 15=>[[],[],[],[],[],[1,2,4,6,7,8,9],[],[],[],[],[],[1,2,4,6,7,8,9],[4,6,7],[]]
 | 16=>[[],[],[0,5,13],[13,16],[]]
 | 17=>[[],[]]
 | 18=>[[],[],[],[],[],[],[]]
 | 19=>[[],[],[],[],[],[],[],[],[],[0,7,9,10,11],[],[],[],[],[],[0,7,9,10,11,12,32,33,34],[],[],[],[],[],[],[9,10],[]]
 | 20=>[[],[]]
 | 21=>[[],[],[],[],[],[],[]]
 | 22=>[[],[],[],[],[0,1,2,3,8,9,10,11],[],[],[],[],[0,1,2,3,8,9,10,11],[0,1,2,3,8,9,10],[],[],[],[],[],[],[0,1,2,3,8,9,10,14,15,16],[],[],[0,1,2,3,8,9,10,14,15,16,17],[],[],[0,1,2,3,8,9,10,14,15,16,17,74],[0,1,2,3,8,9,10,14,15,16,17,74,76],[0,1,2,3,8,9,10,14,15,16,17,74,76,79],[0,1,2,3,8,9,10,14,15,16,17,74,80],[],[],[],[],[],[],[],[0,1,2,3,8,9,10,14,15,16,17,18,19,20,21],[],[],[0,1,2,3,8,9,10,14,15,16,17,21,146],[0,1,2,3,8,9,10,14,15,16,17,21,146,150],[],[0,1,2,3,8,9,10,14,15,16,17],[3,8,9,14],[],[]]
 | 23=>[[],[],[],[],[1,3,4],[],[],[],[3],[]]
 | 24=>[[],[],[]]
 | 25=>[[],[],[],[],[]]
 | 26=>[[],[]]
 | 27=>[[],[]]
 | 28=>[[],[],[]]
 | 29=>[[],[]]
 | 30=>[[],[],[1,2],[]]
 | 31=>[[],[],[],[],[],[],[],[],[8,20,21,22],[],[],[],[],[8],[]]
 | 32=>[[],[],[],[],[],[],[],[],[6,8,20,21,22],[],[],[],[],[8],[]]
 | 33=>[[],[],[],[0,1,5],[],[],[0,1,5,23],[0,1,5,23,30],[],[],[],[0,1],[],[],[0,1,6],[],[],[],[],[],[0,1],[0,1,77],[0,1,77,80],[],[],[],[],[],[],[0,1,7,8],[],[],[],[],[0,1,7,8,9],[],[],[],[0,1,7,8,9],[0,1,7,8],[7],[]]
 | 34=>[[],[],[],[],[0,1,5,6,7],[],[],[],[],[],[0,1,5,6,7,8,9,10,11],[],[],[],[],[],[0,1,5,6,7,8,9,10,11,12,13],[0,1,5,6,7,8,9,10,11,12,13,39],[0,1,5,6,7,8,9,10,11,12,13,39,40],[],[],[0,1,5,6,7,8,9,10,11,13,49],[0,1,5,6,7,8,9,10,11,13,49,57],[],[0,1,5,6,7,8,9,10,11,12],[],[],[],[0,1,5,6,7,8,9,10,11,14,15,70],[0,1,5,6,7,8,9,10,11,14,15,70,77],[],[],[0,1,5,6,7,8,9,10,11],[0,1,5,6,7,8],[],[],[],[0,1,5,6,7,8,16,17],[],[],[],[0,1,5,6,7,8,16,17],[0,1,5,6,7,8,16],[6],[]]
 | 35=>[[],[],[],[],[],[],[0,1,5],[],[],[],[],[],[],[]]
 | 36=>[[],[],[],[],[0,1,6,7,8],[],[],[],[0,1,6,7,8],[6,7],[]]
 | 37=>[[],[],[],[],[0,1,2,3,10,11,12],[0,1,2,3,10,11,12,22],[0,1,2,3,10,11,12,22,25],[],[],[],[1,10,11],[],[1,10,11],[],[],[1,10,11,13],[1,10,11,13,63],[1,10,11,13,63,65],[],[],[],[],[],[],[1,10,11,13],[10,11],[]]
 | 38=>[[],[],[],[0,3],[],[],[],[],[],[],[]]
 | 39=>[[],[],[],[],[0,1,2,7,8],[],[],[0,1,2,7,8,24],[0,1,2,7,8,24,32],[0,1,2,7,8,34],[0,1,2,7,8,34,43],[],[],[],[],[0,2],[]]
 | 40=>[[],[],[],[],[0,1,5,6,7],[],[],[],[],[6],[]]
 | 41=>[[],[],[],[],[],[],[],[],[],[],[],[6,8,25,26,27],[],[],[],[6,8,9,10,25,26,27,34],[6,8,9,10,25,26,27,34,42],[],[],[],[],[6,8],[],[],[],[],[]]
 | 42=>[[],[],[],[],[0,1,5,6,7],[],[],[],[],[],[],[0,1,5,6,7],[6],[]]
 | 43=>[[],[],[],[],[0,4,11,12,13],[],[],[],[],[],[],[],[],[0,4],[0,4,38],[4,38,41],[],[],[],[],[],[4,43,44,45],[],[],[],[4,10,43,44,45,53],[4,10,43,44,45,53,57],[4,10,43,44,45,59],[4,10,43,44,45,59,63],[4,10,43,44,45,65],[4,10,43,44,45,65,69],[4,10,43,44,45,71],[4,10,43,44,45,71,81],[],[],[],[4,10,43,44,45,86],[4,43,44,45,86,91],[],[],[],[4],[]]
 | 44=>[[],[],[],[],[],[1,2,4,6,7,8,9,10],[],[],[],[],[],[1,2,4,6,7,8,9,10,11,52],[1,2,4,6,7,8,9,10,11,52,56],[],[1,2,4,6,7,8,9,10],[4,6,7],[]]
 | 45=>[[],[],[],[],[],[],[1,4],[],[],[],[],[],[],[],[]]
 | 46=>[[],[0,2,10],[10,13],[]]
 | 47=>[[],[],[],[],[0,1,5,6],[],[],[],[],[0,1,5,6],[],[],[0,1,5,6],[],[]]
 | 48=>[[],[],[],[],[],[],[],[]]
 | 49=>[[],[0,1,9],[9,13],[]]
 | 50=>[[],[],[],[],[2,4,5,6],[],[],[],[4,5],[]]
 | 51=>[[],[]]
 | 52=>[[],[]]
 | 53=>[[],[],[],[1,4,5,18],[1,4,5,18,21],[],[],[],[],[4,5],[],[4],[]]
 | 54=>[[],[],[2,3,4],[]]
 | 55=>[[],[],[],[0,2,3],[],[],[],[],[0,2,3,4],[],[2,3],[]]
 | 56=>[[],[]]
 | 57=>[[],[],[],[],[],[],[],[],[0,2,3,5,8,11,31,32,33],[],[],[],[],[0,2,3,5,8,11,31,32,33],[0,2,3,5,8,11],[],[],[],[0,2,3,5,8,11,14,15,50,51,52],[],[],[],[0,2,3,5,8,11,14,15,16,17,50,51,52,61],[0,2,3,5,8,11,14,15,16,17,50,51,52,61,66],[],[],[],[],[],[],[],[],[0,2,3,5,8,11,14,15,21,50,51,52],[0,2,3,5,8,11,14,15,21,50,51,52,119],[0,2,3,5,8,11,14,15,21,50,51,52,119,123],[],[0,2,3,5,8,11,14,15,50,51,52],[3,5,8,14],[],[]]
 | 58=>[[],[],[],[],[2,3,7,8],[],[],[],[],[2,3],[]]
 | 59=>[[],[],[0,1,6,18],[0,1,6,18,20],[0,1,6,22],[0,1,6,22,25],[],[],[],[],[],[],[1,6,7,32,33,34],[],[],[],[1,6,7,9,32,33,34,41],[1,6,7,9,32,33,34,41,44],[1,6,7,9,32,33,34,46],[1,6,7,9,32,33,34,46,49],[1,6,7,9,32,33,34,51],[1,6,7,32,33,34,51,54],[],[],[],[1,6,7],[],[],[6,7,57,58,59],[],[],[],[6,7,11,57,58,59,69],[6,7,11,57,58,59,69,76],[6,7,11,57,58,59,78],[6,7,11,57,58,59,78,83],[],[],[],[],[6,7],[],[],[],[6,7,12,99,100],[],[],[],[],[6,7,12,99,100,102,103],[],[],[],[],[6,7,12,99,100,102,103],[6,7,12,99,100],[7,12],[]]
 | 60=>[[],[],[],[],[],[]]
 | 61=>[[],[]]
 | 62=>[[],[],[],[],[0,5,9,10,11],[],[],[],[],[5],[]]
 | 63=>[[],[0,1,2,11],[11,21],[]]
 | 64=>[[],[]]
 | 65=>[[],[],[],[],[],[3,5,6,11,12,13],[],[],[],[],[],[],[3,5,6,7,9,11,12,13,32],[3,5,6,7,9,11,12,13,32,36],[],[3,5,6,11,12,13],[5],[]]
 | 66=>[[],[],[],[],[],[0,4,5,6,7,8],[0,4,5,6,7,8,22],[0,4,5,6,7,8,22,24],[],[],[],[4,5,6,7],[],[],[],[4,5,6,7,9],[],[],[],[4,5,6,7],[],[],[4,5,6,7,10],[],[],[],[],[4,5],[]]
 | 67=>[[],[],[],[],[],[2,4,5,21],[2,4,5,21,24],[],[2,4,5],[],[],[],[2,4,5,6,7],[],[],[],[2,4,5,6,7],[2,4,5,6],[],[],[],[],[],[],[],[2,5,8,9,10],[2,5,8,10,82],[2,5,8,10,82,84],[2,5,8,10,82,84,88],[2,5,8,10,82,89],[],[],[],[],[2,8,10],[]]
 | 68=>[[],[],[],[2,3,4],[],[],[],[2,4],[]]
 | 69=>[[],[],[],[],[2,3,4,5,6,7,8],[],[],[],[],[],[2,3,4,5,6,7,8,9,10],[],[],[],[],[2,3,4,5,6,7,8,9],[],[2,3,4,5,6,7,8],[2,3,4,5,6,7],[],[3,4,5,12,13,78],[3,4,5,12,13,78,82],[],[],[],[]]
 | 70=>[[],[],[],[],[],[],[],[]]
 | 71=>[[],[],[],[],[2,3,4,5,6],[],[],[],[],[],[2,3,4,5,6,7,8],[2,3,4,5,6,7,8,31],[2,3,4,5,6,7,8,31,33],[],[],[],[],[2,3,4,5,6,8,9],[2,3,4,5,6,7,8],[2,3,4,5,6],[2,3,4,5],[]]
 | 72=>[[],[]]
 | 73=>[[],[],[],[],[0,3,18,19],[],[],[],[],[],[],[0,3,4,18,19,27,28,29],[],[],[],[],[0,3,4,18,19,27,28,29],[0,3,18,19],[0,3],[],[],[],[0,3,7,8],[],[],[],[],[],[0,3,7,8,9,54],[],[],[],[0,3,7,8,9,10,54,64],[0,3,7,8,9,10,54,64,67],[],[],[],[],[0,3,7,8,9,11,12,13,54,89],[0,3,7,8,9,11,12,13,54,89,92],[],[],[0,3,7,8,9],[7],[]]
 | 74=>[[],[],[],[],[0,3,5],[],[],[],[],[0,3,5],[3],[]]
 | 75=>[[],[]]
 | 76=>[[],[],[],[],[0,5,9,10,11],[],[],[],[],[5],[]]
 | 77=>[[],[]]
 | 78=>[[],[],[],[],[4,9,10,11],[],[],[],[],[],[],[],[],[4],[]]
 | 79=>[[],[],[],[],[0,1,5,6],[],[],[],[0,1,5,6],[5],[]]
 | 80=>[[],[],[],[],[4,10,11,12],[],[],[],[],[],[],[],[],[4],[]]
 | 81=>[[],[]]
 | 82=>[[],[]]
 | 83=>[[],[1,6],[6,9],[]]
 | 84=>[[],[1,2,12],[12,19],[]]
 | 85=>[[],[],[],[],[4,5,12,13,14],[],[],[],[],[4,5],[]]
 | 86=>[[],[]]
 | 87=>[[],[2,3,4,7],[2,3,4,7,9],[],[],[],[]]
 | 88=>[[],[2,3,4,7],[2,3,4,7,9],[],[],[],[]]
 | 89=>[[],[],[],[],[],[],[0,3],[],[],[],[],[],[3,4,5,6],[3,4,5,6,20],[3,4,5,6,20,24],[3,4,5,6,20,24,26],[3,4,5,6,20,27],[],[],[],[],[3,4],[3],[],[]]
 | 90=>[[],[1,8],[8,14],[]]
 | 91=>[[],[],[],[0,1,5],[0,1,5,10],[0,1,5,10,14],[],[],[],[],[],[0,1],[]]
 | 92=>[[],[]]
 | 93=>[[],[],[],[],[],[],[],[1,3,4],[],[],[],[],[],[3],[],[3],[],[],[3],[]]
 | 94=>[[],[],[]]
 | 95=>[[],[1,2,6],[1,2,6,10],[],[]]
 | 96=>[[],[]]
 | 97=>[[],[],[],[],[],[],[],[],[],[0,1,2,3,8,9,27,28,29],[],[],[],[],[],[],[0,1,2,3,8,9,12,27,28,29,55],[0,1,2,3,8,9,12,27,28,29,55,58],[],[0,1,2,3,8,9,27,28,29],[0,1,8],[],[]]
 | 98=>[[],[]]
 | 99=>[[],[0,2,11],[0,2,11,14],[0,2,16],[0,2,16,20],[0,2,16,20,23],[0,2,16,24],[],[],[],[],[],[],[0,2,4,5],[],[],[],[],[],[0,2,4,5,6,7],[],[],[0,2,4,5,6,7,46],[0,2,4,5,6,7,46,50],[],[],[],[],[0,2,4,5,6],[0,2,4,5],[2,4],[]]
 | 100=>[[],[],[],[1,2,3],[1,2,3,9],[1,2,3,9,16],[],[],[1,2,3],[],[1,2,3,29],[1,2,29,31],[],[]]
 | 101=>[[],[],[],[],[],[],[],[],[],[0,1,5],[],[],[],[],[],[],[],[],[],[]]
 | 102=>[[],[]]
 | 103=>[[],[],[],[],[0,1,5,6,7],[],[],[],[],[0,1,5,7,8],[],[],[0,1,5,6,7,8],[0,1,5,6,7],[5],[]]
 | 104=>[[],[],[],[],[0,1,5,6,7],[0,1,5,6,7,14],[0,1,5,6,7,14,18],[0,1,5,6,7,20],[0,1,5,6,7,20,22],[],[],[],[],[0,1,5,7,8],[],[0,1,5,7,8],[0,1,5,6,7],[5],[]]
 | 105=>[[],[],[],[0,2,3],[]]
 | 106=>[[],[],[2,3,4],[],[],[],[],[],[],[]]
 | 107=>[[],[]]
 | 108=>[[],[],[],[],[],[],[],[2,6,8,9,10,11,38],[2,6,8,9,10,11,38,42],[2,6,8,9,10,11,12],[2,6,8,9,11,12,46],[2,6,8,9,11,46,48],[2,6,8,9,11,50],[2,6,8,9,11,50,52],[2,6,8,9,11,50,52,55],[2,6,8,9,11,50,56],[],[],[],[],[]]
 | 109=>[[],[],[],[],[],[],[]]
 | 110=>[[],[],[],[0,1,7,8],[],[],[],[],[],[],[],[]]
 | 111=>[[],[]]
 | 112=>[[],[]]
 | 113=>[[],[],[],[],[],[],[]]
 | 114=>[[],[],[],[],[],[0,1,6,7,8],[],[],[],[],[6,7],[]]
 | 115=>[[],[],[0,2,3],[],[],[]]
 | 116=>[[],[]]
 | 117=>[[],[1,4,6],[1,4,6,9],[]]
 | 118=>[[],[],[0],[0,6],[0,6,13],[],[],[0],[]]
 | 119=>[[],[]]
 | 120=>[[],[],[],[4,5,6],[],[],[],[4,5],[]]
 | 121=>[[],[],[],[2,3,4,5,8,9,32],[3,4,5,8,9,32,37],[],[4,5,8,9],[]]
 | 122=>[[],[],[],[],[1,5,18,19,20],[],[],[],[],[],[],[1,5,6,7,8,18,19,20,25,26,27],[],[],[],[],[],[1,5,6,8,18,19,20],[1,5,18,19,20],[5],[]]
 | 123=>[[],[]]
 | 124=>[[],[]]
 | 125=>[[],[],[],[0,11,12],[],[],[],[0,4,11,12,19],[0,11,12,19,23],[],[],[],[0],[0,28],[0,28,32],[0,28,32,35],[0,28,36],[0,38],[0,38,41],[],[],[],[],[],[0,5],[],[],[],[],[],[],[0,5,6,7,8,50,51],[],[],[],[],[0,5,6,7,8],[],[5],[]]
 | 126=>[[],[],[],[],[],[],[],[],[],[0,1,5],[],[],[],[],[],[],[],[],[],[]]
 | 127=>[[],[]]
 | 128=>[[],[],[0,1],[],[],[],[],[0,1,5,6,21,22],[],[],[],[],[],[0,1,5,6,7,8,21,22],[0,1,5,6,21,22],[0,5,6],[],[]]
 | 129=>[[],[],[],[],[],[0,1,5,6,13,14],[],[],[],[],[],[0,1,5,6,7,8,13,14],[0,1,5,6,13,14],[5],[]]
 | 130=>[[],[],[],[],[],[],[],[],[],[],[],[],[],[],[8,9,10,11,12,13],[],[],[],[8,10,11,12],[]]
 | 131=>[[],[],[],[],[],[]]
 | 132=>[[],[],[],[],[]]
 | 133=>[[],[],[],[]]
 | 134=>[[],[],[]]
 | 135=>[[],[]]
 | 136=>[[],[],[],[],[1,5,13,14,15],[],[],[],[],[],[],[5],[]]
 | 137=>[[],[],[],[],[],[0,1,5,7,8],[],[],[],[],[],[0,1,5,7],[],[],[],[0,1,5,7,9,10,83,84],[],[],[],[],[],[],[0,1,5,7,9,10],[],[],[],[],[],[],[0,1,5,7,13,132,133],[],[],[],[],[0,5,7,13],[7],[]]
 | 138=>[[],[],[],[],[0,1,5,12,13],[],[],[],[],[],[0,1,5,6,7,12,13],[0,1,5,12,13],[5],[]]
 | 139=>[[],[],[0,1,4,5,12,19,36,107,132],[0,1,4,5,12,19,22,36,107,132],[],[],[],[],[],[],[],[],[],[],[],[],[],[],[],[0,1,5,6,7,8,9,10,12,107,132],[],[],[],[],[],[],[],[0,1,5,6,7,8,9,10,12,107,132],[0,1,5,6,7,8,9,10,12,84,107,132],[0,1,5,6,7,8,9,10,12,84,92,107,132],[],[],[],[],[],[],[],[],[],[],[],[],[],[],[],[],[],[],[]]
 | 140=>[[],[0,1,10],[10,16],[]]
 | 141=>[[],[],[],[0,2],[],[],[0,2],[]]
 | 142=>[[],[]]
 | 144=>[[],[]]
 | 145=>[[],[],[],[],[],[],[0,1,5,6,7,8,9],[],[],[],[0,1,5,6,7,8],[0,1,5,6,7,8,33],[0,1,5,6,7,8,33,38],[],[],[],[],[],[0,1,5,6,7,8,10],[],[],[],[],[],[],[0,1,5,6,7,8,10,68],[0,1,5,6,7,8,10,68,76],[],[],[],[]]
 | 147=>[[],[],[],[],[0,4,5],[],[],[],[0,4],[],[],[],[4,6,7,8],[],[],[],[4,6,7,8],[4,6,7,8],[4,6],[]]
 | _=>[]
end
end Go.Proofs.YtelmdbpaoifmoaaGreat
namespace Go.Sim
section
noncomputable def II (P:Program) (H:FuncId→Hints) (lf:Nat) (call:kX):kX:=
 fun t args h=>
  match t with
  | .func F=>
   match bC P F (H F) with
   | some (N,ic,rs)=>
    if args.length≤N then
     match lO P (call) lf ic (bw args) h with
     | some (.normal,f,h')=>match pq rs f h' with | some vs=>some (pack vs,h') | none=>none
     | some (.ret,f,h')=>match pq rs f h' with | some vs=>some (pack vs,h') | none=>none
     | _=>none
    else none
   | none=>none
  | .yield i=>
   match h[i]? with
   | some (.loop c ls vs)=>
    match fm P c.N c.kj [],fm P c.N c.body [] with
    | some (ia,_),some (ib,_)=>
     if args.length=c.ps.size∧c.ps.all (·<c.N)=true∧iE c.kj=true∧iE c.body=true then
      match lO P (call) lf ia (Cz c.ps.toList args (kA ls vs)) (h.set i .dead) with
      | some (.normal,f1,h1)=>
       if JB h1 i=true then
        match lO P (call) lf ib f1 h1 with
        | some (.normal,_,h2)=>if JB h2 i=true then some (.bool true,h2.set i (.loop c ls vs)) else none
        | _=>none
       else none
      | _=>none
     else none
    | _,_=>none
   | _=>none
  | _=>none
theorem avJ {P:Program} {H:FuncId→Hints} {lf:Nat} {call:kX} (HC:sG P call):sG P (II P H lf call):=by
 constructor
 ·intro F args h v h' he
  simp only [II] at he
  split at he
  ·rename_i N ic rs hc
   split at he
   ·rename_i ha
    have key:∀{e f h1 vs},(e=Exit.normal∨e=Exit.ret)→lO P (call) lf ic (bw args) h=some (e,f,h1)→pq rs f h1=some vs→wT P F args h (pack vs) h1:=by
     intro e f h1 vs QT El hr
     obtain ⟨u,g,q1,rfl,rfl⟩:=ae1 hc ha (K:=fun u g=>u=pack vs∧g=h1) (P6 HC El (by
      rcases QT with rfl | rfl
      ·exact K4 hr ⟨rfl,rfl⟩
      ·exact K4 hr ⟨rfl,rfl⟩))
     exact q1
    split at he
    ·rename_i f h1 El
     split at he
     ·rename_i vs hr
      simp at he
      obtain ⟨rfl,rfl⟩:=he
      exact key (.inl rfl) El hr
     ·cases he
    ·rename_i f h1 El
     split at he
     ·rename_i vs hr
      simp at he
      obtain ⟨rfl,rfl⟩:=he
      exact key (.inr rfl) El hr
     ·cases he
    ·cases he
   ·cases he
  ·cases he
 ·intro i args h v h' he
  simp only [II] at he
  split at he
  ·rename_i c ls vs hi
   split at he
   ·rename_i ia _ ib _ ha hb
    split at he
    ·rename_i QN
     obtain ⟨c1,c2,c3,c4⟩:=QN
     split at he
     ·rename_i f1 h1 e1
      split at he
      ·rename_i d1
       split at he
       ·rename_i f2 h2 e2
        split at he
        ·rename_i d2
         simp at he
         obtain ⟨rfl,rfl⟩:=he
         obtain ⟨u,g,q1,rfl,rfl⟩:=aFJ (K:=fun u g=>u=.bool true∧g=h2.set i (.loop c ls vs)) hi c1 c2 ha hb c3 c4
          (P6 HC e1 ⟨rfl,afi d1,P6 HC e2 ⟨rfl,afi d2,rfl,rfl⟩⟩)
         exact q1
        ·cases he
       ·cases he
      ·cases he
     ·cases he
    ·cases he
   ·cases he
  ·cases he
end
end Go.Sim
namespace Go.Proofs.YtelmdbpaoifmoaaGreat
open Go.Sim
section
variable (P : Program) (K : VK)
noncomputable section
variable (p0 : Value) (h : ae)
def ahu:=bC prog 61 [[],[]]
@[irreducible] def c61:=bN ahu
theorem k61:ahu=some (10,c61,[.tmp 2]):=by kernel_rfl
def N5 (_:Program) (K:VK) (p0:Value) (h:ae):Prop:=
 OP (xR p0) fun x4=>
 OP (aM 0 x4) fun x5=>
 OP (af false 1 h x5) fun x6=>
 OP (bj x6) fun x7=>
 OP (ai .shl (.int .u16 (1)) x7) fun x8=>
 OP (ai .sub x8 (.int .u16 (1))) fun x9=>
 K x9 h
theorem e61:aj P c61 (aS [.tmp 2] K) (bw [p0]) h=N5 P K p0 h:=by kernel_rfl
theorem f61 {K:VK} {p0:Value} {h:ae} (H:N5 prog K p0 h):ak prog 61 [p0] h K:=
 bP k61 (bL rfl) ((e61 prog K p0 h).mpr H)
end
noncomputable section
variable (p0 s1 x5 x9 aE au : Value) (L1 : LQ) (xs : List Value) (h : ae)
def ahv:=bC prog 62 [[],[],[],[0,9,10],[5,11],[],[],[],[],[5],[]]
@[irreducible] def HG:=bN ahv
@[irreducible] def asR:=HG.r.r.l.r.l.l
@[irreducible] def aa5:=HG.r.r.r
@[irreducible] def asQ:=aa5.l
theorem k62:ahv=some (27,HG,[.tmp 4]):=by kernel_rfl
def MF (_P:Program) (K:VK):ar:=aS [.tmp 4] K
def apn:ar:=aF (aj P aa5 (MF P K)) (MF P K)
def apo:ar:=bO 0 (apn P K)
def apq:ar:=aF (fun f' aT=>(([0,9,10]:List Nat).map f':List Value)=[p0,x9,aE]∧L1 (([5,11]:List Nat).map f') aT) (apo P K)
def ajE:Prop:=ay (aj P asR (apq P K p0 x9 aE L1)) ([0,9,10]++[5,11]) ([p0,x9,aE]++xs) h
def ajD:Prop:=ay (aj P asQ (MF P K)) [5] [x5] h
theorem aCk (p0 x9 aE:Value) (L1:LQ) (x5 au:Value) (h:ae):ajE P K p0 x9 aE L1 [x5,au] h=
 (OP (ai .lss au aE) fun aA=>
 aO aA
 (OP (a9 1 x9 au) fun aC=>
 OP (af false 1 h aC) fun aI=>
 OP (xR p0) fun bY=>
 OP (aM 0 bY) fun aR=>
 OP (af false 1 h aR) fun aP=>
 OP (a9 2 aP aI) fun ba=>
 OP (aM 0 ba) fun bH=>
 OP (af false 1 h bH) fun cm=>
 OP (ai .add x5 cm) fun bt=>
 OP (ai .add au (.int .i64 (1))) fun bu=>
 ([p0,x9,aE]:List Value)=[p0,x9,aE]∧L1 [bt,bu] h)
 (ajD P K x5 h)):=az (by kernel_rfl)
theorem aCj:ajD P K x5 h=
 (K x5 h):=az (by kernel_rfl)
def YA:Prop:=
 ak P 74 [s1] h fun x9 z1=>
 OP (bj x9) fun aE=>
 cN [(.int .i64 (0)),(.int .i64 (0))] z1 fun L1 xs hx=>
 ajE P K p0 x9 aE L1 xs hx
theorem e62:aj P HG (aS [.tmp 4] K) (bw [p0,s1]) h=YA P K p0 s1 h:=by kernel_rfl
theorem f62 {K:VK} {p0 s1:Value} {h:ae} (H:YA prog K p0 s1 h):ak prog 62 [p0,s1] h K:=
 bP k62 (bL rfl) ((e62 prog K p0 s1 h).mpr H)
end
noncomputable section
variable (s0 x3 x5 : Value) (L1 : LQ) (xs : List Value) (h : ae)
def ahF:=bC prog 74 [[],[],[],[0],[3,5],[],[],[],[],[0,3,5],[3],[]]
@[irreducible] def HY:=bN ahF
@[irreducible] def abG:=HY.r.r.l.r.l.l
@[irreducible] def abF:=HY.r.r.r
@[irreducible] def atu:=abG.r.r.r.l
@[irreducible] def atv:=abF.l
theorem k74:ahF=some (17,HY,[.tmp 2]):=by kernel_rfl
def MN (_P:Program) (K:VK):ar:=aS [.tmp 2] K
def ap3:ar:=aF (aj P abF (MN P K)) (MN P K)
def ap4:ar:=bO 0 (ap3 P K)
def Ya:ar:=aF (fun f' aT=>(([0]:List Nat).map f':List Value)=[s0]∧L1 (([3,5]:List Nat).map f') aT) (ap4 P K)
def akg:Prop:=ay (aj P abG (Ya P K s0 L1)) ([0]++[3,5]) ([s0]++xs) h
def Um:Prop:=ay (aj P atu (Ya P K s0 L1)) [0,3,5] [s0,x3,x5] h
def akf:Prop:=ay (aj P atv (MN P K)) [3] [x3] h
theorem alM:Um P K s0 x3 x5 L1 h=
 (OP (ai .add x5 (.int .i64 (1))) fun bf=>
 ([s0]:List Value)=[s0]∧L1 [x3,bf] h):=az (by kernel_rfl)
theorem aC2 (s0:Value) (L1:LQ) (x3 x5:Value) (h:ae):akg P K s0 L1 [x3,x5] h=
 (OP (ai .lss x5 (.int .i64 (10))) fun x6=>
 aO x6
 (ak P 98 [s0,x5] h fun aE z1=>
 aO aE
 (OH (cW 3 1 [(.int .i64 (0))] z1 [(0,1,x5)]) fun aC z2=>
 OH (dM 3 1 8 z2 x3 aC) fun aI z3=>
 Um P K s0 aI x5 L1 z3)
 (Um P K s0 x3 x5 L1 z1))
 (akf P K x3 h)):=az (by kernel_rfl)
theorem aC1:akf P K x3 h=
 (K x3 h):=az (by kernel_rfl)
def Og:Prop:=
 cN [(.slice none 0 0),(.int .i64 (0))] h fun L1 xs hx=>
 akg P K s0 L1 xs hx
theorem e74:aj P HY (aS [.tmp 2] K) (bw [s0]) h=Og P K s0 h:=by kernel_rfl
theorem f74 {K:VK} {s0:Value} {h:ae} (H:Og prog K s0 h):ak prog 74 [s0] h K:=
 bP k74 (bL rfl) ((e74 prog K s0 h).mpr H)
end
noncomputable section
variable (p0 s1 x5 x9 aE au : Value) (L1 : LQ) (xs : List Value) (h : ae)
def ahH:=bC prog 76 [[],[],[],[0,9,10],[5,11],[],[],[],[],[5],[]]
@[irreducible] def HZ:=bN ahH
@[irreducible] def atx:=HZ.r.r.l.r.l.l
@[irreducible] def abI:=HZ.r.r.r
@[irreducible] def atw:=abI.l
theorem k76:ahH=some (27,HZ,[.tmp 4]):=by kernel_rfl
def MO (_P:Program) (K:VK):ar:=aS [.tmp 4] K
def ap5:ar:=aF (aj P abI (MO P K)) (MO P K)
def ap6:ar:=bO 0 (ap5 P K)
def ap7:ar:=aF (fun f' aT=>(([0,9,10]:List Nat).map f':List Value)=[p0,x9,aE]∧L1 (([5,11]:List Nat).map f') aT) (ap6 P K)
def aki:Prop:=ay (aj P atx (ap7 P K p0 x9 aE L1)) ([0,9,10]++[5,11]) ([p0,x9,aE]++xs) h
def akh:Prop:=ay (aj P atw (MO P K)) [5] [x5] h
theorem aC4 (p0 x9 aE:Value) (L1:LQ) (x5 au:Value) (h:ae):aki P K p0 x9 aE L1 [x5,au] h=
 (OP (ai .lss au aE) fun aA=>
 aO aA
 (OP (a9 1 x9 au) fun aC=>
 OP (af false 1 h aC) fun aI=>
 OP (xR p0) fun bY=>
 OP (aM 0 bY) fun aR=>
 OP (af false 1 h aR) fun aP=>
 OP (a9 2 aP aI) fun ba=>
 OP (aM 1 ba) fun bH=>
 OP (af false 1 h bH) fun cm=>
 OP (ai .add x5 cm) fun bt=>
 OP (ai .add au (.int .i64 (1))) fun bu=>
 ([p0,x9,aE]:List Value)=[p0,x9,aE]∧L1 [bt,bu] h)
 (akh P K x5 h)):=az (by kernel_rfl)
theorem aC3:akh P K x5 h=
 (K x5 h):=az (by kernel_rfl)
def YB:Prop:=
 ak P 74 [s1] h fun x9 z1=>
 OP (bj x9) fun aE=>
 cN [(.int .i64 (0)),(.int .i64 (0))] z1 fun L1 xs hx=>
 aki P K p0 x9 aE L1 xs hx
theorem e76:aj P HZ (aS [.tmp 4] K) (bw [p0,s1]) h=YB P K p0 s1 h:=by kernel_rfl
theorem f76 {K:VK} {p0 s1:Value} {h:ae} (H:YB prog K p0 s1 h):ak prog 76 [p0,s1] h K:=
 bP k76 (bL rfl) ((e76 prog K p0 s1 h).mpr H)
end
noncomputable section
variable (s0 i1 : Value) (h : ae)
def ahZ:=bC prog 98 [[],[]]
@[irreducible] def c98:=bN ahZ
theorem k98:ahZ=some (10,c98,[.tmp 4]):=by kernel_rfl
def OB (_:Program) (K:VK) (s0 i1:Value) (h:ae):Prop:=
 OP (ai .shr s0 i1) fun x7=>
 OP (ai .and x7 (.int .u16 (1))) fun x8=>
 OP (ai .eql x8 (.int .u16 (1))) fun x9=>
 K x9 h
theorem e98:aj P c98 (aS [.tmp 4] K) (bw [s0,i1]) h=OB P K s0 i1 h:=by kernel_rfl
theorem f98 {K:VK} {s0 i1:Value} {h:ae} (H:OB prog K s0 i1 h):ak prog 98 [s0,i1] h K:=
 bP k98 (bL rfl) ((e98 prog K s0 i1 h).mpr H)
end
end
end Go.Proofs.YtelmdbpaoifmoaaGreat
namespace Go.Sim
section
def val (B:Nat):List Nat→Nat
 | []=>0
 | d::ds=>d+B*val B ds
def cn (B:Nat) (xs:List Nat):Prop:=∀x∈xs,x<B
def dj (B:Nat) (xs:List Nat):Prop:=cn B xs∧xs.getLast?≠some 0
theorem nS (B:Nat):∀xs ys:List Nat,val B (xs++ys)=val B xs+B^xs.length*val B ys
 | [],ys=>by simp [val]
 | x::xs,ys=>by
  simp only [List.cons_append,val,nS B xs ys,length_cons,Nat.pow_succ]
  grind
theorem yf (B:Nat):∀n,val B (List.replicate n 0)=0
 | 0=>rfl
 | n+1=>by rw [List.replicate_succ];simp [val,yf B n]
theorem tI (B:Nat):∀(xs:List Nat) (i d:Nat) (hi:i<xs.length),val B (xs.set i d)+B^i*xs[i]=val B xs+B^i*d
 | [],i,d,hi=>by simp at hi
 | x::xs,0,d,hi=>by simp [val];omega
 | x::xs,i+1,d,hi=>by
  have ih:=tI B xs i d (by simpa using hi)
  simp only [List.set_cons_succ,val,List.getElem_cons_succ,Nat.pow_succ]
  grind
theorem jc (B:Nat) (xs:List Nat) {i:Nat} (hi:i<xs.length):val B (xs.take (i+1))=val B (xs.take i)+B^i*xs[i]:=by
 rw [List.take_succ_eq_append_getElem hi,nS]
 simp [val,Nat.min_eq_left (Nat.le_of_lt hi)]
theorem cn.mono {B:Nat} {xs ys:List Nat} (h:cn B xs) (hs:∀y∈ys,y∈xs):cn B ys:=fun y hy=>h y (hs y hy)
theorem cn.append {B:Nat} {xs ys:List Nat} (h:cn B xs) (k:cn B ys):cn B (xs++ys):=fun y hy=>(mem_append.1 hy).elim (h y) (k y)
theorem cn.set {B:Nat} {xs:List Nat} (h:cn B xs) {d:Nat} (hd:d<B) (i:Nat):cn B (xs.set i d):=fun y hy=>by
 rcases List.mem_or_eq_of_mem_set hy with h1 | h1
 ·exact h y h1
 ·rw [h1];exact hd
theorem cn.wR {B:Nat} (hB:0<B) (n:Nat):cn B (List.replicate n 0):=fun y hy=>by
 rw [(List.mem_replicate.1 hy).2];exact hB
theorem nk {B:Nat}:∀{xs:List Nat},cn B xs→val B xs<B^xs.length
 | [],_=>by simp [val]
 | x::xs,h=>by
  have h1:=h x (by simp)
  have ih:=nk (xs:=xs) fun y hy=>h y (by simp [hy])
  simp only [val,length_cons,Nat.pow_succ]
  have:B*(val B xs+1)≤B*B^xs.length:=Nat.mul_le_mul_left _ ih
  rw [Nat.mul_comm (B^xs.length)]
  grind
theorem dj.cons {B:Nat} {x:Nat} {xs:List Nat} (h:dj B (x::xs)):x<B∧dj B xs∧(xs=[]→x≠0):=by
 refine ⟨h.1 x (by simp),⟨fun y hy=>h.1 y (by simp [hy]),?_⟩,?_⟩
 ·intro hl
  apply h.2
  cases xs with
  | nil=>simp at hl
  | cons y ys=>simpa [List.getLast?_cons_cons] using hl
 ·rintro rfl rfl
  exact h.2 rfl
theorem dj.zero {B:Nat} (hB:0<B):∀{xs:List Nat},dj B xs→val B xs=0→xs=[]
 | [],_,_=>rfl
 | x::xs,h,h0=>by
  obtain ⟨_,h2,h3⟩:=h.cons
  simp only [val] at h0
  have hx:x=0:=by omega
  have hv:B*val B xs=0:=by omega
  have:val B xs=0:=by
   rcases Nat.mul_eq_zero.1 hv with h | h
   ·omega
   ·exact h
  exact absurd hx (h3 (dj.zero hB h2 this))
theorem dj.unique {B:Nat} (hB:0<B):∀{xs ys:List Nat},dj B xs→dj B ys→val B xs=val B ys→xs=ys
 | [],ys,_,hy,h=>(dj.zero hB hy (by simpa [val] using h.symm)).symm
 | x::xs,[],hx,_,h=>dj.zero hB hx (by simpa [val] using h)
 | x::xs,y::ys,hx,hy,h=>by
  obtain ⟨a1,a2,_⟩:=hx.cons
  obtain ⟨b1,b2,_⟩:=hy.cons
  simp only [val] at h
  have e1:x=y:=by
   have:=congrArg (·%B) h
   simpa [Nat.add_mul_mod_self_left,Nat.mod_eq_of_lt a1,Nat.mod_eq_of_lt b1] using this
  subst e1
  have e2:val B xs=val B ys:=Nat.eq_of_mul_eq_mul_left hB (by omega)
  rw [dj.unique hB a2 b2 e2]
theorem dj.low {B:Nat} (hB:0<B):∀{xs:List Nat},dj B xs→xs≠[]→B^(xs.length-1)≤val B xs
 | [x],h,_=>by
  have:=h.cons.2.2 rfl
  simp [val]
  omega
 | x::y::xs,h,_=>by
  have ih:=dj.low hB h.cons.2.1 (by simp)
  simp only [length_cons,Nat.add_sub_cancel] at ih⊢
  rw [show val B (x::y::xs)=x+B*val B (y::xs) from rfl,Nat.pow_succ]
  have:B*B^xs.length≤B*val B (y::xs):=Nat.mul_le_mul_left _ ih
  rw [Nat.mul_comm (B^xs.length)]
  omega
theorem dj.len {B k:Nat} (hB:1<B) {xs:List Nat} (h:dj B xs) (hv:val B xs<B^k):xs.length≤k:=by
 by_cases hx:xs=[]
 ·subst hx;simp
 ·have h1:=dj.low (by omega) h hx
  have h2:B^(xs.length-1)<B^k:=Nat.lt_of_le_of_lt h1 hv
  have:=(Nat.pow_lt_pow_iff_right hB).1 h2
  have:0<xs.length:=List.length_pos_iff.2 hx
  omega
theorem dj.nil (B:Nat):dj B []:=⟨fun x hx=>by simp at hx,by simp⟩
theorem dj.Ap {B:Nat} (hB:1<B) {xs ys:List Nat} (hx:dj B xs) (hy:dj B ys) (h:xs.length<ys.length):val B xs<val B ys:=by
 have h1:=nk hx.1
 have h2:=dj.low (by omega) hy (by rintro rfl;simp at h)
 have h3:B^xs.length≤B^(ys.length-1):=pow_le_pow_right (by omega) (by omega)
 omega
theorem Ih {B:Nat} {xs:List Nat} (h:cn B xs) (hl:∀h0:0<xs.length,xs[xs.length-1]≠0):dj B xs:=by
 refine ⟨h,fun h0=>?_⟩
 rw [List.getLast?_eq_getElem?] at h0
 obtain ⟨h1,h2⟩:=bD h0
 exact hl (by omega) h2
end
section
def SK (k:IntKind):Prop:=k=.u16∨k=.i64
theorem SK.wrap {k:IntKind} (hk:SK k) {n:Int} (h0:0≤n) (h1:n<32768):k.wrap n=n:=by
 rcases hk with rfl | rfl
 ·have e:IntKind.wrap .u16 n=n%65536:=by simp [IntKind.wrap,IntKind.bits,IntKind.signed]
  rw [e];omega
 ·exact wrap64 (by omega) (by omega)
theorem SK.bits {k:IntKind} (hk:SK k):16≤k.bits:=by
 rcases hk with rfl | rfl <;> decide
theorem SK.toNat {k:IntKind} (hk:SK k) {a:Nat} (ha:a<1024):(BitVec.ofInt k.bits (a:Int)).toNat=a:=by
 have h:=hk.bits
 have h2:(2:Nat)^16≤2^k.bits:=pow_le_pow_right (by decide) h
 rw [BitVec.toNat_ofInt]
 have h3:((2^k.bits:Nat):Int)=2^k.bits:=by simp
 rw [Int.emod_eq_of_lt (by omega) (by omega)]
 omega
theorem orK {k:IntKind} (hk:SK k) {a b:Nat} (ha:a<1024) (hb:b<1024):ai .or (.int k (a:Int)) (.int k (b:Int))=some (.int k ((a ||| b:Nat):Int)):=by
 have e:ai .or (.int k (a:Int)) (.int k (b:Int))=some (Value.int k (k.wrap ((BitVec.ofInt k.bits (a:Int) ||| BitVec.ofInt k.bits (b:Int)).toNat:Int))):=by simp [ai,ie]
 rw [e,BitVec.toNat_or,hk.toNat ha,hk.toNat hb]
 have:a ||| b<2^10:=Nat.or_lt_two_pow ha hb
 rw [hk.wrap (by omega) (by omega)]
theorem YK {k:IntKind} (hk:SK k) {a b:Nat} (ha:a<1024) (hb:b<1024):ai .and (.int k (a:Int)) (.int k (b:Int))=some (.int k ((a &&& b:Nat):Int)):=by
 have e:ai .and (.int k (a:Int)) (.int k (b:Int))=some (Value.int k (k.wrap ((BitVec.ofInt k.bits (a:Int) &&& BitVec.ofInt k.bits (b:Int)).toNat:Int))):=by simp [ai,ie]
 rw [e,BitVec.toNat_and,hk.toNat ha,hk.toNat hb]
 have:a &&& b<2^10:=Nat.and_lt_two_pow _ hb
 rw [hk.wrap (by omega) (by omega)]
def jL (a b:Nat):Bool:=a &&& b==a
theorem aEA {k:IntKind} (hk:SK k) {s a:Nat} (ha:a<16):ai .shr (.int k (s:Int)) (I a)=some (.int k ((s / 2^a:Nat):Int)):=by
 have h:=hk.bits
 simp only [ai,qX]
 rw [if_neg (by omega)]
 have:min ((a:Int).toNat) k.bits=a:=by omega
 rw [this,Int.fdiv_eq_ediv_of_nonneg _ (Int.pow_nonneg (by decide))]
 rfl
theorem aEz {k:IntKind} (hk:SK k) {a:Nat} (ha:a<11):ai .shl (.int k 1) (I a)=some (.int k ((2^a:Nat):Int)):=by
 have h:=hk.bits
 simp only [ai,qX]
 rw [if_neg (by omega)]
 have:min ((a:Int).toNat) k.bits=a:=by omega
 rw [this,Int.one_mul]
 have h2:(2:Nat)^a≤2^10:=pow_le_pow_right (by decide) (by omega)
 have h3:((2:Int)^a)=((2^a:Nat):Int):=by simp
 have hpa:((2^a:Nat):Int)≤((1024:Nat):Int):=Int.ofNat_le.2 h2
 rw [h3,hk.wrap (Int.natCast_nonneg _) (by omega)]
theorem aqK (z:Nat):z &&& 1=z%2:=Nat.and_one_is_mod z
theorem pB {a b:Nat}:jL a b=true↔∀i,a.testBit i=true→b.testBit i=true:=by
 unfold jL
 rw [beq_iff_eq]
 constructor
 ·intro h i hi
  have:=congrArg (fun n=>n.testBit i) h
  simp only [testBit_and] at this
  rw [hi] at this
  simpa using this
 ·intro h
  apply eq_of_testBit_eq
  intro i
  rw [testBit_and]
  cases hi:a.testBit i with
  | false=>rfl
  | true=>rw [h i hi];rfl
theorem tE (d i j:Nat):(d ||| 2^i).testBit j=(d.testBit j||decide (i=j)):=by
 rw [testBit_or,Nat.testBit_two_pow]
theorem Cq {d i n:Nat} (hd:d<2^n) (hi:i<n):d ||| 2^i<2^n:=Nat.or_lt_two_pow hd (Nat.pow_lt_pow_right (by decide) hi)
end
section
def jt {α:Type}:List α→(α→Int)→Int
 | [],_=>0
 | x::l,f=>f x+jt l f
section
variable {α β : Type}
theorem CK (f:α→Int):∀l m:List α,jt (l++m) f=jt l f+jt m f
 | [],m=>by simp [jt]
 | x::l,m=>by simp only [List.cons_append,jt,CK f l m];omega
end
section
variable (com : Nat → Nat → Bool)
variable {com}
end
end
end Go.Sim
namespace Go.Proofs.YtelmdbpaoifmoaaGreat
open Go.Sim
section
abbrev U (s:Nat):Value:=.int .u16 (s:Int)
theorem uI:SK .u16:=.inl rfl
def PL (h:ae) (p:Value) (js:List (Int×Int)) (bs:List Nat):Prop:=∃i vj vb,p=pt i 0∧aQ h i=some [vj,vb]∧PS h vj js∧NS h vb .u16 (bs.map fun b:Nat=>(b:Int))
theorem PL.mono {h h':ae} {p:Value} {js:List (Int×Int)} {bs:List Nat} (x:EX h h') (q:PL h p js bs):PL h' p js bs:=
 let ⟨i,vj,vb,a,b,c,d⟩:=q;⟨i,vj,vb,a,x.cells b,c.mono x,d.mono x⟩
def GU (n:Nat):Nat:=2^n-1
theorem C98 {s i:Nat} {h:ae} {K:Value→ae→Prop} (hi:i<16) (hs:s<1024) (hk:K (B (s.testBit i)) h):ak prog 98 [U s,I i] h K:=by
 refine f98 ?_
 have hd:s / 2^i<1024:=Nat.lt_of_le_of_lt (Nat.div_le_self _ _) hs
 have ha:=YK uI hd (show 1<1024 by decide)
 have km:ai .and (.int .u16 ((s / 2^i:Nat):Int)) (.int .u16 1)=some (.int .u16 ((s / 2^i &&& 1:Nat):Int)):=ha
 simp only [OB,aEA uI hi,ah,km,jw]
 have e:decide (((s / 2^i &&& 1:Nat):Int)=1)=s.testBit i:=by
  rw [Nat.testBit_eq_decide_div_mod_eq,aqK]
  by_cases h1:s / 2^i%2=1
  ·rw [aZ h1,aZ (by omega)]
  ·rw [aU h1,aU (by omega)]
 rw [e]
 exact hk
theorem WN {p:Value} {js:List (Int×Int)} {bs:List Nat} {h:ae} {K:Value→ae→Prop} (hp:PL h p js bs) (hl:js.length≤10) (hk:K (U (GU js.length)) h):ak prog 61 [p] h K:=by
 obtain ⟨i,vj,vb,rfl,hc,hj,hb⟩:=hp
 refine f61 ?_
 have ld:af false 1 h (pt i 0)=some vj:=by simp [af,hc,cf]
 have e1:(1:Nat)≤2^js.length:=Nat.pow_pos (by decide)
 have e2:(2:Nat)^js.length≤2^10:=pow_le_pow_right (by decide) hl
 simp only [N5,JZ,ah,cw,Nat.add_zero,ld,hj.len,aEz uI (show js.length<11 by omega),gf]
 rw [uI.wrap (by omega) (by omega)]
 have:((2^js.length:Nat):Int)-1=((GU js.length:Nat):Int):=by unfold GU;omega
 rw [this]
 exact hk
theorem NS.awb {h:ae} {v:Value} {bs:List Nat} (p:NS h v .u16 (bs.map fun b:Nat=>(b:Int))) {i:Nat} (hi:i<bs.length):∃b o,a9 1 v (I i)=some (pt b o)∧af false 1 h (pt b o)=some (U (bs.getD i 0)):=by
 obtain ⟨b,o,g1,g2⟩:=p.get i (by simpa using hi)
 refine ⟨b,o,g1,?_⟩
 rw [g2]
 simp [getD_eq_getElem?_getD,hi]
def cO (s:Nat):Nat→List Nat
 | 0=>[]
 | i+1=>if s.testBit i=true then cO s i++[i] else cO s i
theorem E0 (s:Nat):∀n,(cO s n).length≤n
 | 0=>le_refl _
 | n+1=>by have:=E0 s n;simp only [cO];split <;> simp <;> omega
theorem Cg (s:Nat):∀(n i:Nat),i∈cO s n→i<n∧s.testBit i=true
 | 0,i,h=>by simp [cO] at h
 | n+1,i,h=>by
  simp only [cO] at h
  split at h
  ·rename_i ht
   rcases mem_append.1 h with h | h
   ·have:=Cg s n i h;exact ⟨by omega,this.2⟩
   ·have:i=n:=by simpa using h
    subst this;exact ⟨by omega,ht⟩
  ·have:=Cg s n i h;exact ⟨by omega,this.2⟩
theorem L5 {s:Nat} {h:ae} {K:Value→ae→Prop} (hs:s<1024) (hk:∀v h',EX h h'→NS h' v .i64 ((cO s 10).map fun i:Nat=>(i:Int))→K v h'):ak prog 74 [U s] h K:=by
 refine f74 ?_
 unfold Og
 refine dI (σ:=Nat×Value×ae) (fun p=>[p.2.1,I p.1]) (fun p=>p.2.2) (fun p=>p.1≤10∧EX h p.2.2∧eJ h.length p.2.2 3 p.2.1 ((cO s p.1).map fun i:Nat=>I i)) (fun p=>10-p.1)
  (0,.slice none 0 0,h) rfl rfl ⟨zero_le _,EX.refl _,.inl ⟨rfl,rfl⟩⟩ ?_
 rintro ⟨i,v,g⟩ ⟨hi,xg,iX⟩ L hL
 simp only at hi xg iX hL⊢
 have BQ:=E0 s i
 rw [aC2]
 simp only [cS,ah,bW]
 refine ⟨fun aD=>?_,fun cE=>?_⟩
 ·refine C98 (by omega) hs ?_
  refine AU (fun ht=>?_) fun ht=>?_
  ·refine GW iX xg (by simp;omega) (by simp [maxLen];omega) rfl rfl ?_
   intro v' g' xg' dL
   simp only [alM,cP,ah,ft i (by omega),true_and]
   refine hL (i+1,v',g') ⟨by show i+1≤10;omega,xg',?_⟩ (by show 10-(i+1)<10-i;omega)
   show eJ h.length g' 3 v' ((cO s (i+1)).map fun i:Nat=>I i)
   simp only [cO,ht,if_true,List.map_append,List.map_cons,List.map_nil]
   exact dL
  ·simp only [alM,cP,ah,ft i (by omega),true_and]
   refine hL (i+1,v,g) ⟨by show i+1≤10;omega,xg,?_⟩ (by show 10-(i+1)<10-i;omega)
   show eJ h.length g 3 v ((cO s (i+1)).map fun i:Nat=>I i)
   simp only [cO,ht,false_eq_true,if_false]
   exact iX
 ·have fO:i=10:=by omega
  subst fO
  rw [aC1]
  refine hk v g xg ?_
  rcases iX with ⟨h1,h2⟩ | ⟨a,_,h2,h3⟩
  ·have:cO s 10=[]:=by simpa using h2
   rw [this,h1]
   exact NS.nil g .i64
  ·rw [h2,length_map]
   have:=NS.sl (h:=g) (e:=3) (i:=a) (k:=.i64) (ns:=(cO s 10).map fun i:Nat=>(i:Int)) (.inr (by simp [aQ,h3])) (by simp [maxLen];omega)
   rw [length_map] at this
   exact this
def wK (js:List (Int×Int)) (l:List Nat):Int:=jt l fun i=>(js.getD i (0,0)).1
theorem amu {α:Type} (f:α→Int) (l:List α) {j:Nat} (hj:j<l.length):jt (l.take (j+1)) f=jt (l.take j) f+f l[j]:=by
 rw [List.take_succ_eq_append_getElem hj,CK]
 simp [jt]
theorem PS.getD {h:ae} {v:Value} {js:List (Int×Int)} (p:PS h v js) {i:Nat} (hi:i<js.length):∃b o,a9 2 v (I i)=some (pt b o)∧af false 1 h (pt b o)=some (I (js.getD i (0,0)).1)∧af false 1 h (pt b (o+1))=some (I (js.getD i (0,0)).2)∧
  af true 2 h (pt b o)=some (.agg #[I (js.getD i (0,0)).1,I (js.getD i (0,0)).2]):=by
 obtain ⟨b,o,g1,g2,g3,g4⟩:=p.get i hi
 have e:js.getD i (0,0)=js[i]:=by simp [getD_eq_getElem?_getD,hi]
 rw [e]
 exact ⟨b,o,g1,g2,g3,g4⟩
def qp (js:List (Int×Int)):Prop:=∀j∈js,(1≤j.1∧j.1≤50)∧0≤j.2∧j.2≤50
theorem qp.getD {js:List (Int×Int)} (h:qp js) {i:Nat} (hi:i<js.length):(1≤(js.getD i (0,0)).1∧(js.getD i (0,0)).1≤50)∧0≤(js.getD i (0,0)).2∧(js.getD i (0,0)).2≤50:=by
 have e:js.getD i (0,0)=js[i]:=by simp [getD_eq_getElem?_getD,hi]
 rw [e];exact h _ (getElem_mem hi)
theorem ams {js:List (Int×Int)} (h:qp js):∀l:List Nat,(∀i∈l,i<js.length)→0≤wK js l∧wK js l≤50*l.length
 | [],_=>by simp [wK,jt]
 | i::l,hl=>by
  have ih:=ams h l fun x hx=>hl x (by simp [hx])
  have:=h.getD (hl i (by simp))
  unfold wK at ih⊢
  simp only [jt,length_cons]
  omega
theorem WO {p:Value} {js:List (Int×Int)} {bs:List Nat} {s:Nat} {h:ae} {K:Value→ae→Prop} (hp:PL h p js bs) (hj:qp js) (hl:js.length≤10) (hs:s<2^js.length) (hk:∀h',EX h h'→K (I (wK js (cO s 10))) h'):ak prog 62 [p,U s] h K:=by
 have awj:(2:Nat)^js.length≤2^10:=pow_le_pow_right (by decide) hl
 refine f62 (L5 (by omega) ?_)
 intro v g xg hn
 obtain ⟨a,vj,vb,rfl,hc,Q9,Ej⟩:=hp.mono xg
 have aD:∀i∈cO s 10,i<js.length:=by
  intro i hi
  have h1:=(Cg s 10 i hi).2
  apply byContradiction
  intro cE
  have:s<2^i:=lt_of_lt_of_le hs (pow_le_pow_right (by decide) (by omega))
  rw [Nat.testBit_lt_two_pow this] at h1
  cases h1
 have BQ:=E0 s 10
 have Ak:bj v=some (I (cO s 10).length):=by have:=hn.len;rwa [length_map] at this
 simp only [Ak,ah]
 refine dI (σ:=Nat) (fun i=>[I (wK js ((cO s 10).take i)),I i]) (fun _=>g) (fun i=>i≤(cO s 10).length) (fun i=>(cO s 10).length-i) 0 rfl rfl (zero_le _) ?_
 intro i hi L hL
 rw [aCk]
 simp only [cS,ah,bW]
 refine ⟨fun mY=>?_,fun cE=>?_⟩
 ·have bn:i<(cO s 10).length:=by omega
  obtain ⟨b,o,g1,g2⟩:=hn.get i (by simpa using bn)
  have e:((cO s 10).map fun i:Nat=>(i:Int))[i]'(by simpa using bn)=((cO s 10)[i]:Int):=by simp
  rw [e] at g2
  have hm:=aD _ (getElem_mem bn)
  obtain ⟨c,q,r1,r2,r3,r4⟩:=PS.getD Q9 hm
  have ld:af false 1 g (pt a 0)=some vj:=by simp [af,hc,cf]
  have bK:wK js ((cO s 10).take (i+1))=wK js ((cO s 10).take i)+(js.getD (cO s 10)[i] (0,0)).1:=by
   exact amu _ _ bn
  have mU:=ams hj ((cO s 10).take (i+1)) fun x hx=>aD x (List.mem_of_mem_take hx)
  rw [List.length_take,bK] at mU
  simp only [g1,g2,ah,JZ,cw,Nat.add_zero,ld,r1,r2,cP,ft i (by omega)]
  rw [wrap64 (by omega) (by omega),←bK]
  simp only [true_and]
  exact hL (i+1) (by omega) (by omega)
 ·have fO:i=(cO s 10).length:=by omega
  subst fO
  rw [List.take_length,aCj]
  exact hk g xg
end
end Go.Proofs.YtelmdbpaoifmoaaGreat
namespace Go.Sim
section
def jY (bs:List Nat) (s i:Nat):Bool:= !s.testBit i&&jL (bs.getD i 0) s
def cK (n:Nat):Nat:=2^n-1
theorem SE {s i:Nat} (h:s.testBit i=false):s<s ||| 2^i:=by
 have h1:s≤s ||| 2^i:=Nat.left_le_or
 rcases Nat.lt_or_eq_of_le h1 with h2 | h2
 ·exact h2
 ·exfalso
  have:=congrArg (fun m=>m.testBit i) h2
  simp only [tE] at this
  rw [h] at this
  simp at this
theorem CB {bs:List Nat} {s i:Nat} (h:jY bs s i=true):s.testBit i=false:=by
 unfold jY at h
 rw [and_eq_true] at h
 simpa using h.1
end
section
def uM:Nat→List Nat→Nat
 | s,[]=>s
 | s,i::l=>uM (s ||| 2^i) l
def qi (bs:List Nat) (n:Nat):Nat→List Nat→Bool
 | _,[]=>true
 | s,i::l=>(decide (i<n)&&jY bs s i)&&qi bs n (s ||| 2^i) l
theorem J8 {bs:List Nat} {n:Nat}:∀{s:Nat} {l:List Nat},qi bs n s l=true→∀i∈l,i<n
 | s,[],_,i,hi=>by simp at hi
 | s,j::l,h,i,hi=>by
  simp only [qi,and_eq_true,decide_eq_true_eq] at h
  rcases mem_cons.1 hi with rfl | hi
  ·exact h.1.1
  ·exact J8 h.2 i hi
def fP (js:List (Int×Int)) (i:Nat):Int:=(js.getD i (0,0)).1
def jP (js:List (Int×Int)) (i:Nat):Int:=(js.getD i (0,0)).2
def tR (js:List (Int×Int)):Int→List Nat→Int
 | _,[]=>0
 | now,i::l=>jP js i*(now+fP js i)+tR js (now+fP js i) l
end
section
def nO (s:Nat):Nat→List Nat
 | 0=>[]
 | i+1=>if s.testBit i=true then nO s i++[i] else nO s i
def kT (js:List (Int×Int)) (s:Nat):Int:=jt (nO s 10) (fP js)
theorem J4 (js:List (Int×Int)) {s i:Nat} (hi:i<10) (hb:s.testBit i=false):kT js (s ||| 2^i)=kT js s+fP js i:=by
 have key:∀m,jt (nO (s ||| 2^i) m) (fP js)=jt (nO s m) (fP js)+if i<m then fP js i else 0:=by
  intro m
  induction m with
  | zero=>simp [nO,jt]
  | succ m ih=>
   simp only [nO,tE]
   by_cases dY:i=m
   ·subst dY
    rw [hb]
    simp only [decide_true,Bool.or_true,if_true,CK,jt,ih]
    simp
   ·have:decide (i=m)=false:=aU dY
    rw [this,Bool.or_false]
    have h2:(if i<m+1 then fP js i else 0)=if i<m then fP js i else 0:=by
     by_cases h3:i<m
     ·rw [if_pos h3,if_pos (by omega)]
     ·rw [if_neg h3,if_neg (by omega)]
    rw [h2]
    split
    ·simp only [CK,jt,ih];omega
    ·exact ih
 have:=key 10
 rw [if_pos hi] at this
 exact this
theorem azG (js:List (Int×Int)):kT js 0=0:=by
 have:∀m,nO 0 m=[]:=by
  intro m
  induction m with
  | zero=>rfl
  | succ m ih=>simp [nO,ih]
 unfold kT
 rw [this];rfl
def oc (bs:List Nat) (js:List (Int×Int)) (s:Nat) (g:Nat→Int):Nat→Int
 | 0=> -1
 | i+1=>if jY bs s i=true then (if oc bs js s g i<0∨jP js i*(kT js s+fP js i)+g i<oc bs js s g i then jP js i*(kT js s+fP js i)+g i else oc bs js s g i) else oc bs js s g i
theorem OW {bs:List Nat} {js:List (Int×Int)} {s:Nat} {g g':Nat→Int}:∀{m:Nat},(∀i,i<m→jY bs s i=true→g i=g' i)→oc bs js s g m=oc bs js s g' m
 | 0,_=>rfl
 | m+1,h=>by
  have ih:=OW (bs:=bs) (js:=js) (s:=s) (g:=g) (g':=g') (m:=m) fun i hi=>h i (by omega)
  simp only [oc,ih]
  split
  ·rename_i hr
   rw [h m (by omega) hr]
  ·rfl
def lY (bs:List Nat) (js:List (Int×Int)) (n:Nat):Nat→Nat→Int
 | 0,_=>0
 | f+1,s=>if s=cK n then 0 else oc bs js s (fun i=>lY bs js n f (s ||| 2^i)) n
theorem af1 (bs:List Nat) (js:List (Int×Int)) (n:Nat):∀(f s:Nat),s<2^n→cK n-s≤f→lY bs js n (f+1) s=lY bs js n f s
 | 0,s,hs,hf=>by
  have:s=cK n:=by unfold cK at*;omega
  simp [lY,this]
 | f+1,s,hs,hf=>by
  by_cases he:s=cK n
  ·simp [lY,he]
  ·rw [lY,lY,if_neg he,if_neg he]
   refine OW fun i hi hr=>?_
   have h1:=SE (CB hr)
   exact af1 bs js n f _ (Cq hs hi) (by unfold cK at*;omega)
def ky (bs:List Nat) (js:List (Int×Int)) (n s:Nat):Int:=lY bs js n (cK n) s
theorem azj (bs:List Nat) (js:List (Int×Int)) (n:Nat) {s:Nat} (hs:s<2^n) {f:Nat} (h1:cK n-s≤f) (h2:f≤cK n):lY bs js n f s=ky bs js n s:=by
 unfold ky
 obtain ⟨d,hd⟩:∃d,cK n=f+d:=⟨cK n-f,by omega⟩
 have key:∀d,lY bs js n (f+d) s=lY bs js n f s:=by
  intro d
  induction d with
  | zero=>rfl
  | succ d ih=>rw [show f+(d+1)=f+d+1 by omega,af1 bs js n (f+d) s hs (by omega),ih]
 rw [hd]
 exact (key d).symm
theorem af2 (bs:List Nat) (js:List (Int×Int)) (n:Nat):ky bs js n (cK n)=0:=by
 unfold ky
 cases h:cK n with
 | zero=>rfl
 | succ f=>rw [lY,if_pos h.symm]
theorem azl (bs:List Nat) (js:List (Int×Int)) (n:Nat) {s:Nat} (hs:s<cK n):ky bs js n s=oc bs js s (fun i=>ky bs js n (s ||| 2^i)) n:=by
 have jH:s<2^n:=by unfold cK at hs;omega
 obtain ⟨f,hf⟩:∃f,cK n=f+1:=⟨cK n-1,by omega⟩
 conv=>lhs;unfold ky;rw [hf,lY,if_neg (by omega)]
 refine OW fun i hi hr=>?_
 have h1:=SE (CB hr)
 exact azj bs js n (Cq jH hi) (by omega) (by omega)
def yd (js:List (Int×Int)):Prop:=∀i,(0≤fP js i∧fP js i≤50)∧0≤jP js i∧jP js i≤50
theorem azF {js:List (Int×Int)} (h:yd js) (s:Nat):0≤kT js s∧kT js s≤500:=by
 have key:∀m,0≤jt (nO s m) (fP js)∧jt (nO s m) (fP js)≤50*m:=by
  intro m
  induction m with
  | zero=>simp [nO,jt]
  | succ m ih=>
   have:=h m
   simp only [nO]
   split
   ·simp only [CK,jt];omega
   ·omega
 have:=key 10
 unfold kT
 omega
theorem acf {js:List (Int×Int)} (h:yd js) (s i:Nat):0≤jP js i*(kT js s+fP js i)∧jP js i*(kT js s+fP js i)≤27500:=by
 have h1:=h i
 have h2:=azF h s
 have Rf:0≤jP js i*(kT js s+fP js i):=Int.mul_nonneg h1.2.1 (by omega)
 have vQ:jP js i*(kT js s+fP js i)≤50*550:=Int.mul_le_mul h1.2.2 (by omega) (by omega) (by omega)
 omega
theorem OX {bs:List Nat} {js:List (Int×Int)} (h:yd js) {s:Nat} {g:Nat→Int}:∀{m:Nat},(∀i,i<m→jY bs s i=true→0≤g i)→
  (oc bs js s g m= -1∧∀i,i<m→jY bs s i=false)∨(0≤oc bs js s g m∧(∃i,i<m∧jY bs s i=true∧oc bs js s g m=jP js i*(kT js s+fP js i)+g i)∧∀i,i<m→jY bs s i=true→oc bs js s g m≤jP js i*(kT js s+fP js i)+g i)
 | 0,_=>.inl ⟨rfl,fun i hi=>by omega⟩
 | m+1,hg=>by
  have hc:=(acf h s m).1
  have ih:=OX h (bs:=bs) (s:=s) (g:=g) (m:=m) fun i hi=>hg i (by omega)
  by_cases hr:jY bs s m=true
  ·have hgm:=hg m (by omega) hr
   simp only [oc,hr,if_true]
   rcases ih with ⟨e,dC⟩ | ⟨h0,⟨j,j1,j2,j3⟩,hle⟩
   ·rw [e,if_pos (.inl (by omega))]
    refine .inr ⟨by omega,⟨m,by omega,hr,rfl⟩,fun i hi jq=>?_⟩
    by_cases dY:i=m
    ·subst dY;exact Int.le_refl _
    ·rw [dC i (by omega)] at jq;cases jq
   ·by_cases aD:jP js m*(kT js s+fP js m)+g m<oc bs js s g m
    ·rw [if_pos (.inr aD)]
     refine .inr ⟨by omega,⟨m,by omega,hr,rfl⟩,fun i hi jq=>?_⟩
     by_cases dY:i=m
     ·subst dY;exact Int.le_refl _
     ·have:=hle i (by omega) jq;omega
    ·rw [if_neg (by omega)]
     refine .inr ⟨h0,⟨j,by omega,j2,j3⟩,fun i hi jq=>?_⟩
     by_cases dY:i=m
     ·subst dY;omega
     ·exact hle i (by omega) jq
  ·have qO:jY bs s m=false:=by simpa using hr
   simp only [oc,qO]
   simp only [false_eq_true,if_false]
   rcases ih with ⟨e,dC⟩ | ⟨h0,⟨j,j1,j2,j3⟩,hle⟩
   ·refine .inl ⟨e,fun i hi=>?_⟩
    by_cases dY:i=m
    ·subst dY;exact qO
    ·exact dC i (by omega)
   ·refine .inr ⟨h0,⟨j,by omega,j2,j3⟩,fun i hi jq=>?_⟩
    by_cases dY:i=m
    ·subst dY;rw [qO] at jq;cases jq
    ·exact hle i (by omega) jq
def A8 (bs:List Nat) (n:Nat):Prop:=∀s,s<cK n→∃i,i<n∧jY bs s i=true
theorem af0 {bs:List Nat} {js:List (Int×Int)} (h:yd js) {n:Nat} (hu:A8 bs n):∀(f s:Nat),s<2^n→0≤lY bs js n f s∧lY bs js n f s≤27500*f
 | 0,s,hs=>by simp [lY]
 | f+1,s,hs=>by
  rw [lY]
  by_cases he:s=cK n
  ·rw [if_pos he];omega
  ·rw [if_neg he]
   have B2:s<cK n:=by unfold cK at*;omega
   have ih:∀i,i<n→0≤lY bs js n f (s ||| 2^i)∧lY bs js n f (s ||| 2^i)≤27500*f:=fun i hi=>af0 h hu f _ (Cq hs hi)
   rcases OX h (bs:=bs) (s:=s) (g:=fun i=>lY bs js n f (s ||| 2^i)) (m:=n) (fun i hi _=>(ih i hi).1) with ⟨_,dC⟩ | ⟨h0,⟨j,j1,j2,j3⟩,_⟩
   ·obtain ⟨i,hi,hr⟩:=hu s B2
    rw [dC i hi] at hr;cases hr
   ·refine ⟨h0,?_⟩
    rw [j3]
    have h1:=acf h s j
    have h2:=ih j j1
    omega
theorem azk {bs:List Nat} {js:List (Int×Int)} (h:yd js) {n:Nat} (hn:n≤10) (hu:A8 bs n) {s:Nat} (hs:s<2^n):0≤ky bs js n s∧ky bs js n s≤30000000:=by
 have:=af0 h hu (cK n) s hs
 have h2n:(2:Nat)^n≤2^10:=pow_le_pow_right (by decide) hn
 have:cK n≤1023:=by unfold cK;omega
 unfold ky
 omega
theorem azm {bs:List Nat} {js:List (Int×Int)} (h:yd js) {n:Nat} (hn:n≤10) (hu:A8 bs n) {s:Nat} (hs:s<cK n):
  (∃i,i<n∧jY bs s i=true∧ky bs js n s=jP js i*(kT js s+fP js i)+ky bs js n (s ||| 2^i))∧∀i,i<n→jY bs s i=true→ky bs js n s≤jP js i*(kT js s+fP js i)+ky bs js n (s ||| 2^i):=by
 have jH:s<2^n:=by unfold cK at hs;omega
 rw [azl bs js n hs]
 rcases OX h (bs:=bs) (s:=s) (g:=fun i=>ky bs js n (s ||| 2^i)) (m:=n) (fun i hi _=>(azk h hn hu (Cq jH hi)).1) with ⟨_,dC⟩ | ⟨_,b,c⟩
 ·obtain ⟨i,hi,hr⟩:=hu s hs
  rw [dC i hi] at hr;cases hr
 ·exact ⟨b,c⟩
theorem af3 {bs:List Nat} {js:List (Int×Int)} (h:yd js) {n:Nat} (hn:n≤10) (hu:A8 bs n):∀{l:List Nat} {s:Nat},s<2^n→qi bs n s l=true→uM s l=cK n→ky bs js n s≤tR js (kT js s) l
 | [],s,hs,_,he=>by
  have fK:s=cK n:=he
  rw [fK,af2]
  exact Int.le_refl _
 | i::l,s,hs,aH,he=>by
  simp only [qi,and_eq_true,decide_eq_true_eq] at aH
  obtain ⟨⟨hi,hr⟩,Ru⟩:=aH
  have h1:=SE (CB hr)
  have h2:=Cq hs hi
  have B2:s<cK n:=by unfold cK;omega
  have h3:=(azm h hn hu B2).2 i hi hr
  have ih:=af3 h hn hu (l:=l) h2 Ru he
  rw [J4 js (by omega) (CB hr)] at ih
  simp only [tR]
  omega
end
section
theorem ade (n:Nat):cK n<2^n:=by
 have:0<2^n:=Nat.pow_pos (by decide)
 unfold cK;omega
def PW (bs:List Nat) (n t:Nat):Prop:=∀s,(∃j,t.testBit j=true∧s.testBit j=false)→∃i,i<n∧jY bs s i=true
theorem PW.step {bs:List Nat} {n t i:Nat} (h:PW bs n t) (hi:i<n) (hr:jY bs t i=true):PW bs n (t ||| 2^i):=by
 rintro s ⟨j,h1,h2⟩
 by_cases rT:∃j,t.testBit j=true∧s.testBit j=false
 ·exact h s rT
 ·have EJ:∀k,t.testBit k=true→s.testBit k=true:=by
   intro k hk
   cases hs:s.testBit k with
   | true=>rfl
   | false=>exact absurd ⟨k,hk,hs⟩ rT
  rw [tE] at h1
  have fB:i=j:=by
   cases ht:t.testBit j with
   | true=>have:=EJ j ht;rw [h2] at this;cases this
   | false=>rw [ht] at h1;simpa using h1
  subst fB
  refine ⟨i,hi,?_⟩
  unfold jY at hr⊢
  rw [h2,Bool.not_false,Bool.true_and,pB]
  rw [and_eq_true,pB] at hr
  exact fun k hk=>EJ k (hr.2 k hk)
theorem xo (n j:Nat):(cK n).testBit j=decide (j<n):=Nat.testBit_two_pow_sub_one n j
theorem avE {n s:Nat} (hs:s<2^n) (h:∀j,j<n→s.testBit j=true):s=cK n:=by
 apply eq_of_testBit_eq
 intro j
 rw [xo]
 by_cases hj:j<n
 ·rw [aZ hj,h j hj]
 ·rw [aU hj]
  exact Nat.testBit_lt_two_pow (lt_of_lt_of_le hs (pow_le_pow_right (by decide) (by omega)))
theorem SY {n s:Nat} (hs:s<cK n):∃j,j<n∧s.testBit j=false:=by
 apply byContradiction
 intro dC
 have:s=cK n:=avE (lt_of_lt_of_le hs (Nat.le_of_lt (ade n))) fun j hj=>by
  cases ht:s.testBit j with
  | true=>rfl
  | false=>exact absurd ⟨j,hj,ht⟩ dC
 omega
end
end Go.Sim
namespace Go.Proofs.YtelmdbpaoifmoaaGreat
open Go.Sim
section
def KH (n:Nat) (p:Int×Int):Bool:=(decide (0≤min p.1 p.2)&&decide (max p.1 p.2<n))&& !decide (p.1=p.2)
theorem adf (n:Nat):GU n=cK n:=rfl
structure BS (ps:List (Int×Int)) (n:Nat) (bs:List Nat):Prop where
 len:bs.length=n
 lt:∀b∈bs,b<2^n
 bit:∀i,i<n→∀j:Nat,(bs.getD i 0).testBit j=decide (((j:Int),(i:Int))∈ps)
end
section
def wL (js:List (Int×Int)) (l:List Nat):Int:=jt l fun i=>(js.getD i (0,0)).2
theorem amw {js:List (Int×Int)} (h:qp js):∀l:List Nat,(∀i∈l,i<js.length)→0≤wL js l∧wL js l≤50*l.length
 | [],_=>by simp [wL,jt]
 | i::l,hl=>by
  have ih:=amw h l fun x hx=>hl x (by simp [hx])
  have:=h.getD (hl i (by simp))
  unfold wL at ih⊢
  simp only [jt,length_cons]
  omega
theorem WU {p:Value} {js:List (Int×Int)} {bs:List Nat} {s:Nat} {h:ae} {K:Value→ae→Prop} (hp:PL h p js bs) (hj:qp js) (hl:js.length≤10) (hs:s<2^js.length) (hk:∀h',EX h h'→K (I (wL js (cO s 10))) h'):ak prog 76 [p,U s] h K:=by
 have awj:(2:Nat)^js.length≤2^10:=pow_le_pow_right (by decide) hl
 refine f76 (L5 (by omega) ?_)
 intro v g xg hn
 obtain ⟨a,vj,vb,rfl,hc,Q9,Ej⟩:=hp.mono xg
 have aD:∀i∈cO s 10,i<js.length:=by
  intro i hi
  have h1:=(Cg s 10 i hi).2
  apply byContradiction
  intro cE
  have:s<2^i:=lt_of_lt_of_le hs (pow_le_pow_right (by decide) (by omega))
  rw [Nat.testBit_lt_two_pow this] at h1
  cases h1
 have BQ:=E0 s 10
 have Ak:bj v=some (I (cO s 10).length):=by have:=hn.len;rwa [length_map] at this
 simp only [Ak,ah]
 refine dI (σ:=Nat) (fun i=>[I (wL js ((cO s 10).take i)),I i]) (fun _=>g) (fun i=>i≤(cO s 10).length) (fun i=>(cO s 10).length-i) 0 rfl rfl (zero_le _) ?_
 intro i hi L hL
 rw [aC4]
 simp only [cS,ah,bW]
 refine ⟨fun mY=>?_,fun cE=>?_⟩
 ·have bn:i<(cO s 10).length:=by omega
  obtain ⟨b,o,g1,g2⟩:=hn.get i (by simpa using bn)
  have e:((cO s 10).map fun i:Nat=>(i:Int))[i]'(by simpa using bn)=((cO s 10)[i]:Int):=by simp
  rw [e] at g2
  have hm:=aD _ (getElem_mem bn)
  obtain ⟨c,q,r1,r2,r3,r4⟩:=PS.getD Q9 hm
  have ld:af false 1 g (pt a 0)=some vj:=by simp [af,hc,cf]
  have bK:wL js ((cO s 10).take (i+1))=wL js ((cO s 10).take i)+(js.getD (cO s 10)[i] (0,0)).2:=by
   exact amu _ _ bn
  have mU:=amw hj ((cO s 10).take (i+1)) fun x hx=>aD x (List.mem_of_mem_take hx)
  rw [List.length_take,bK] at mU
  simp only [g1,g2,ah,JZ,cw,Nat.add_zero,ld,r1,r3,cP,ft i (by omega)]
  rw [wrap64 (by omega) (by omega),←bK]
  simp only [true_and]
  exact hL (i+1) (by omega) (by omega)
 ·have fO:i=(cO s 10).length:=by omega
  subst fO
  rw [List.take_length,aC3]
  exact hk g xg
def tw (f:Nat→Bool):Nat→Nat
 | 0=>0
 | n+1=>if f n=true then tw f n ||| 2^n else tw f n
theorem ah2 (f:Nat→Bool):∀n,tw f n<2^n
 | 0=>by simp [tw]
 | n+1=>by
  have h:=ah2 f n
  have h2:(2:Nat)^n<2^(n+1):=Nat.pow_lt_pow_right (by decide) (by omega)
  simp only [tw]
  split
  ·exact Cq (by omega) (by omega)
  ·omega
theorem ah1 (f:Nat→Bool) (j:Nat):∀n,(tw f n).testBit j=(decide (j<n)&&f j)
 | 0=>by simp [tw]
 | n+1=>by
  have h:=ah1 f j n
  simp only [tw]
  by_cases hj:n=j
  ·subst hj
   have hf:(tw f n).testBit n=false:=by rw [h];simp
   split
   ·rename_i hn;rw [tE,hf,hn];simp
   ·rename_i hn
    have:f n=false:=by simpa using hn
    rw [hf,this];simp
  ·have e:decide (j<n+1)=decide (j<n):=by rw [decide_eq_decide];omega
   rw [e]
   split
   ·rw [tE,h];simp [hj]
   ·exact h
def yK (ps:List (Int×Int)) (n:Nat):List Nat:=(List.range n).map fun i:Nat=>tw (fun j:Nat=>decide (((j:Int),(i:Int))∈ps)) n
theorem aqO (ps:List (Int×Int)) (n:Nat):(yK ps n).length=n:=by simp [yK]
theorem aqN (ps:List (Int×Int)) {n i:Nat} (hi:i<n):(yK ps n).getD i 0=tw (fun j:Nat=>decide (((j:Int),(i:Int))∈ps)) n:=by
 simp [yK,getD_eq_getElem?_getD,hi]
theorem BS.uniq {ps:List (Int×Int)} {n:Nat} {bs nB:List Nat} (b:BS ps n bs) (b':BS ps n nB):bs=nB:=by
 apply List.ext_getElem (by rw [b.len,b'.len])
 intro i h1 h2
 have e1:bs[i]=bs.getD i 0:=by simp [getD_eq_getElem?_getD,h1]
 have e2:nB[i]=nB.getD i 0:=by simp [getD_eq_getElem?_getD,h2]
 rw [e1,e2]
 apply eq_of_testBit_eq
 intro j
 have hi:i<n:=by rw [←b.len];exact h1
 rw [b.bit i hi j,b'.bit i hi j]
theorem az3 {n:Nat} {ps:List (Int×Int)} (h:ps.all (KH n)=true) {p:Int×Int} (hp:p∈ps):(0≤p.1∧p.1<n)∧(0≤p.2∧p.2<n)∧p.1≠p.2:=by
 have:=List.all_eq_true.1 h p hp
 simp only [KH,and_eq_true,decide_eq_true_eq,Bool.not_eq_true',decide_eq_false_iff_not] at this
 omega
theorem BS.of {ps:List (Int×Int)} {n:Nat} (h:ps.all (KH n)=true):BS ps n (yK ps n):=by
 refine ⟨aqO ps n,?_,?_⟩
 ·intro b hb
  simp only [yK,mem_map,mem_range] at hb
  obtain ⟨i,_,rfl⟩:=hb
  exact ah2 _ n
 ·intro i hi j
  rw [aqN ps hi,ah1]
  by_cases hm:((j:Int),(i:Int))∈ps
  ·have:=az3 h hm
   simp only at this
   rw [aZ (show j<n by omega),aZ hm];rfl
  ·rw [aU hm,Bool.and_false]
structure Vd (js ps:List (Int×Int)) (n:Nat) (bs:List Nat):Prop where
 hn:js.length=n
 n1:1≤n
 n10:n≤10
 p40:ps.length≤40
 small:qp js
 Cy:ps.all (KH n)=true
 eq:bs=yK ps n
 is:BS ps n bs
 ac:A8 bs n
theorem Vd.two {js ps:List (Int×Int)} {n:Nat} {bs:List Nat} (v:Vd js ps n bs):2^n≤1024:=pow_le_pow_right (show 0<2 by decide) v.n10
end
section
end
end Go.Proofs.YtelmdbpaoifmoaaGreat
namespace Go.Sim
section
def od (a b:Nat):Nat:=a^^^(a &&& b)
theorem Bk (a b j:Nat):(od a b).testBit j=(a.testBit j&& !b.testBit j):=by
 unfold od
 rw [Nat.testBit_xor,testBit_and]
 cases a.testBit j <;> cases b.testBit j <;> rfl
theorem acy (a b:Nat):od a b≤a:=by
 have h:od a b=a &&& od a b:=by
  apply eq_of_testBit_eq
  intro j
  rw [testBit_and,Bk]
  cases a.testBit j <;> cases b.testBit j <;> rfl
 rw [h]
 exact Nat.and_le_left
theorem acz {a b:Nat}:od a b=0↔jL a b=true:=by
 rw [pB]
 constructor
 ·intro h i hi
  have:=congrArg (fun m=>m.testBit i) h
  simp only [Bk,Nat.zero_testBit,hi,Bool.true_and] at this
  simpa using this
 ·intro h
  apply eq_of_testBit_eq
  intro j
  rw [Bk,Nat.zero_testBit]
  cases hj:a.testBit j with
  | false=>rfl
  | true=>rw [h j hj];rfl
theorem YL {k:IntKind} (hk:SK k) {a b:Nat} (ha:a<1024) (hb:b<1024):ai .andNot (.int k (a:Int)) (.int k (b:Int))=some (.int k ((od a b:Nat):Int)):=by
 have e:ai .andNot (.int k (a:Int)) (.int k (b:Int))=some (Value.int k (k.wrap ((BitVec.ofInt k.bits (a:Int) &&& ~~~BitVec.ofInt k.bits (b:Int)).toNat:Int))):=by simp [ai,ie]
 have h2:(BitVec.ofInt k.bits (a:Int) &&& ~~~BitVec.ofInt k.bits (b:Int))=BitVec.ofInt k.bits (a:Int)^^^(BitVec.ofInt k.bits (a:Int) &&& BitVec.ofInt k.bits (b:Int)):=by
  ext i hi
  simp only [BitVec.getElem_and,BitVec.getElem_not,BitVec.getElem_xor]
  generalize (BitVec.ofInt k.bits (a:Int))[i]=p
  generalize (BitVec.ofInt k.bits (b:Int))[i]=q
  cases p <;> cases q <;> rfl
 rw [e,h2,BitVec.toNat_xor,BitVec.toNat_and,hk.toNat ha,hk.toNat hb]
 have:=acy a b
 unfold od at this
 rw [hk.wrap (by omega) (by omega)]
 rfl
theorem YM {a b:Nat}:a &&& b=0↔∀j,a.testBit j=true→b.testBit j=false:=by
 constructor
 ·intro h j hj
  have:=congrArg (fun m=>m.testBit j) h
  simp only [testBit_and,Nat.zero_testBit,hj,Bool.true_and] at this
  exact this
 ·intro h
  apply eq_of_testBit_eq
  intro j
  rw [testBit_and,Nat.zero_testBit]
  cases hj:a.testBit j with
  | false=>rfl
  | true=>rw [h j hj];rfl
end
end Go.Sim
namespace Go.Proofs.YtelmdbpaoifmoaaGreat
open Go.Sim
section
theorem qp.all {js:List (Int×Int)} (h:qp js) (i:Nat):(0≤fP js i∧fP js i≤50)∧0≤jP js i∧jP js i≤50:=by
 unfold fP jP
 by_cases hi:i<js.length
 ·have:=h.getD hi;omega
 ·have:js.getD i (0,0)=(0,0):=by
   simp only [getD_eq_getElem?_getD]
   rw [List.getElem?_eq_none (by omega)];rfl
  rw [this];simp
theorem NS.Ak {h:ae} {v:Value} {l:List Nat} (p:NS h v .i64 (l.map fun i:Nat=>(i:Int))):bj v=some (I l.length):=by have:=p.len;rwa [length_map] at this
end
section
variable (P : Program) (K : VK)
noncomputable section
variable (p0 x3 s4 x7 x8 x9 oK au w5 w6 aR aP bE cG cL cY jd fX iF rz : Value) (L1 L2 : LQ) (xs : List Value) (h : ae)
def ahE:=bC prog 73 [[],[],[],[0,3,18],[19],[],[],[],[],[],[0,3,4,18,19,27,28],[29],[],[],[],[],[0,3,4,18,19,27,28,29],[0,3,18,19],[0,3],[],[],[0,3],[7,8],[],[],[],[],[0,3,7,8,54],[9],[],[],[],[0,3,7,8,9,10,54,64],[0,3,7,8,9,10,54,64,67],[],[],[],[],[0,3,7,8,9,11,12,13,54,89],[0,3,7,8,9,11,12,13,54,89,92],[],[],[0,3,7,8,9],[7],[]]
@[irreducible] def HW:=bN ahE
@[irreducible] def Pw:=HW.r.r.l.r.l.l
@[irreducible] def abA:=HW.r.r.r
@[irreducible] def aby:=Pw.r.r.l.l.r.r.r.l.l
@[irreducible] def abE:=Pw.r.r.r
@[irreducible] def Pt:=abA.l
@[irreducible] def atm:=aby.r.r.r.l
@[irreducible] def atn:=abE.l
@[irreducible] def Pu:=Pt.r.l.r.l.l
@[irreducible] def abz:=Pt.r.r
@[irreducible] def HX:=Pu.r.l.r.l.r.l.l
@[irreducible] def abB:=Pu.r.l.r.r
@[irreducible] def att:=abz.l
@[irreducible] def abC:=HX.r.r.l.r.l.l.r.l
@[irreducible] def ato:=HX.r.r.l.r.l.r
@[irreducible] def Pv:=HX.r.r.l.r.r
@[irreducible] def ats:=abB.l
@[irreducible] def atp:=abC.r.l
@[irreducible] def abD:=Pv.r.r.l.l.r.l
@[irreducible] def atq:=Pv.r.r.l.r
@[irreducible] def atr:=abD.r.l
theorem k73:ahE=some (110,HW,[.tmp 2]):=by kernel_rfl
def A0 (_P:Program) (K:VK):ar:=aS [.tmp 2] K
def apY:ar:=aF (iB P abA (A0 P K)) (A0 P K)
def ap1:ar:=bO 0 (apY P K)
def GG:ar:=aF (fun f' aT=>(([0,3,18]:List Nat).map f':List Value)=[p0,x3,aR]∧L1 (([19]:List Nat).map f') aT) (ap1 P K)
def ap2:ar:=aF (iB P abE (GG P K p0 x3 aR L1)) (GG P K p0 x3 aR L1)
def apU:ar:=bO 1 (ap2 P K p0 x3 aR L1)
def apV:ar:=bO 2 (apU P K p0 x3 aR L1)
def X0:ar:=aF (fun f' aT=>(([0,3,4,18,19,27,28]:List Nat).map f':List Value)=[p0,x3,s4,aR,aP,bE,cG]∧L2 (([29]:List Nat).map f') aT) (apV P K p0 x3 aR L1)
def apW:ar:=aF (iB P abz (A0 P K)) (A0 P K)
def apX:ar:=bO 4 (apW P K)
def X2:ar:=aF (fun f' aT=>(([0,3]:List Nat).map f':List Value)=[p0,x3]∧L1 (([7,8]:List Nat).map f') aT) (apX P K)
def ML:ar:=bO 5 (X2 P K p0 x3 L1)
def apZ:ar:=aF (iB P abB (ML P K p0 x3 L1)) (ML P K p0 x3 L1)
def ap0:ar:=bO 6 (apZ P K p0 x3 L1)
def X3:ar:=aF (fun f' aT=>(([0,3,7,8,54]:List Nat).map f':List Value)=[p0,x3,x7,x8,cY]∧L2 (([9]:List Nat).map f') aT) (ap0 P K p0 x3 L1)
def MM:ar:=bO 7 (X3 P K p0 x3 x7 x8 cY L1 L2)
def X6:ar:=aF (iB P Pv (MM P K p0 x3 x7 x8 cY L1 L2)) (MM P K p0 x3 x7 x8 cY L1 L2)
def X7:ar:=aF (iB P ato (X6 P K p0 x3 x7 x8 cY L1 L2)) (X6 P K p0 x3 x7 x8 cY L1 L2)
def X8:ar:=bO 8 (MM P K p0 x3 x7 x8 cY L1 L2)
def X9:ar:=aF (iB P atq (X8 P K p0 x3 x7 x8 cY L1 L2)) (X8 P K p0 x3 x7 x8 cY L1 L2)
def ake:Prop:=ay (iB P Pw (GG P K p0 x3 aR L1)) ([0,3,18]++[19]) ([p0,x3,aR]++xs) h
def aj5:Prop:=ay (iB P aby (X0 P K p0 x3 s4 aR aP bE cG L1 L2)) ([0,3,4,18,19,27,28]++[29]) ([p0,x3,s4,aR,aP,bE,cG]++xs) h
def Uj:Prop:=ay (iB P atm (X0 P K p0 x3 s4 aR aP bE cG L1 L2)) [0,3,4,18,19,27,28,29] [p0,x3,s4,aR,aP,bE,cG,cL] h
def aj6:Prop:=ay (iB P atn (GG P K p0 x3 aR L1)) [0,3,18,19] [p0,x3,aR,aP] h
def aj7:Prop:=ay (iB P Pt (A0 P K)) [0,3] [p0,x3] h
def aj8:Prop:=ay (iB P Pu (X2 P K p0 x3 L1)) ([0,3]++[7,8]) ([p0,x3]++xs) h
def aj9:Prop:=ay (iB P HX (X3 P K p0 x3 x7 x8 cY L1 L2)) ([0,3,7,8,54]++[9]) ([p0,x3,x7,x8,cY]++xs) h
def aka:Prop:=ay (iB P abC (X7 P K p0 x3 x7 x8 cY L1 L2)) [0,3,7,8,9,10,54,64] [p0,x3,x7,x8,x9,oK,cY,jd] h
def Uk:Prop:=ay (iB P atp (X7 P K p0 x3 x7 x8 cY L1 L2)) [0,3,7,8,9,10,54,64,67] [p0,x3,x7,x8,x9,oK,cY,jd,fX] h
def akb:Prop:=ay (iB P abD (X9 P K p0 x3 x7 x8 cY L1 L2)) [0,3,7,8,9,11,12,13,54,89] [p0,x3,x7,x8,x9,au,w5,w6,cY,iF] h
def Ul:Prop:=ay (iB P atr (X9 P K p0 x3 x7 x8 cY L1 L2)) [0,3,7,8,9,11,12,13,54,89,92] [p0,x3,x7,x8,x9,au,w5,w6,cY,iF,rz] h
def akc:Prop:=ay (iB P ats (ML P K p0 x3 L1)) [0,3,7,8,9] [p0,x3,x7,x8,x9] h
def akd:Prop:=ay (iB P att (A0 P K)) [7] [x7] h
theorem alJ:Uj P K p0 x3 s4 aR aP bE cG cL L1 L2 h=
 (OP (ai .add cL (.int .i64 (1))) fun lJ=>
 ([p0,x3,s4,aR,aP,bE,cG]:List Value)=[p0,x3,s4,aR,aP,bE,cG]∧L2 [lJ] h):=az (by kernel_rfl)
theorem aCR (p0 x3 s4 aR aP bE cG:Value) (L1 L2:LQ) (cL:Value) (h:ae):aj5 P K p0 x3 s4 aR aP bE cG L1 L2 [cL] h=
 (OP (ai .lss cL cG) fun dO=>
 aO dO
 (OP (a9 1 bE cL) fun cg=>
 OP (af false 1 h cg) fun cM=>
 OP (xR p0) fun cj=>
 OP (aM 1 cj) fun dV=>
 OP (af false 1 h dV) fun db=>
 OP (a9 1 db cM) fun dD=>
 OP (af false 1 h dD) fun dZ=>
 OP (c8 .u16 s4) fun dW=>
 OP (ai .andNot dZ dW) fun eB=>
 OP (ai .neq eB (.int .u16 (0))) fun bV=>
 aO bV
 (OP (c8 .u16 s4) fun dE=>
 OH (SZ (.int .u16) h x3 dE) fun _ z1=>
 Uj P K p0 x3 s4 aR aP bE cG cL L1 L2 z1)
 (Uj P K p0 x3 s4 aR aP bE cG cL L1 L2 h))
 (aj6 P K p0 x3 aR aP L1 h)):=az (by kernel_rfl)
theorem aCS:aj6 P K p0 x3 aR aP L1 h=
 (OP (ai .add aP (.int .i64 (1))) fun fx=>
 ([p0,x3,aR]:List Value)=[p0,x3,aR]∧L1 [fx] h):=az (by kernel_rfl)
theorem aC0 (p0 x3 aR:Value) (L1:LQ) (aP:Value) (h:ae):ake P K p0 x3 aR L1 [aP] h=
 (OP (ai .lss aP aR) fun aX=>
 aO aX
 (OP (c8 .u16 aP) fun bt=>
 OH (Co (.int .u16) h x3 bt (.bool true)) fun _ z1=>
 OP (c8 .u16 aP) fun bI=>
 ak P 74 [bI] z1 fun bE z2=>
 OP (bj bE) fun cG=>
 cN [(.int .i64 (0))] z2 fun L2 xs hx=>
 aj5 P K p0 x3 aP aR aP bE cG L1 L2 xs hx)
 (aj7 P K p0 x3 h)):=az (by kernel_rfl)
theorem alK:Uk P K p0 x3 x7 x8 x9 oK cY jd fX L1 L2 h=
 (OP (bX jd (.bool true) fX) fun gp=>
 aO gp
 (([p0,x3,x7,x8,cY]:List Value)=[p0,x3,x7,x8,cY]∧L2 [x9] h)
 (OP (ai .andNot oK x8) fun gO=>
 ak P 76 [p0,gO] h fun kD z1=>
 ak P 62 [p0,x9] z1 fun iQ z2=>
 OP (ai .mul kD iQ) fun fH=>
 ak P 76 [p0,x9] z2 fun kF z3=>
 ak P 62 [p0,gO] z3 fun gP z4=>
 OP (ai .mul kF gP) fun wP=>
 OP (ai .eql x9 (.int .u16 (0))) fun nr=>
 akb P K p0 x3 x7 x8 x9 gO fH wP cY nr L1 L2 z4)):=az (by kernel_rfl)
theorem aCW:aka P K p0 x3 x7 x8 x9 oK cY jd L1 L2 h=
 (cD jd false
 (OP (ai .eql oK x8) fun fX=>
 Uk P K p0 x3 x7 x8 x9 oK cY jd fX L1 L2 h)
 (Uk P K p0 x3 x7 x8 x9 oK cY jd undef L1 L2 h)):=az (by kernel_rfl)
theorem alL:Ul P K p0 x3 x7 x8 x9 au w5 w6 cY iF rz L1 L2 h=
 (OP (bX iF (.bool true) rz) fun mJ=>
 aO mJ
 (([p0,x3,x7,x8,cY]:List Value)=[p0,x3,x7,x8,cY]∧L2 [au] h)
 (OP (ai .eql w5 w6) fun Wa=>
 aO Wa
 (OP (ai .or x9 au) fun sv=>
 ([p0,x3,x7,x8,cY]:List Value)=[p0,x3,x7,x8,cY]∧L2 [sv] h)
 (([p0,x3,x7,x8,cY]:List Value)=[p0,x3,x7,x8,cY]∧L2 [x9] h))):=az (by kernel_rfl)
theorem aCX:akb P K p0 x3 x7 x8 x9 au w5 w6 cY iF L1 L2 h=
 (cD iF false
 (OP (ai .gtr w5 w6) fun rz=>
 Ul P K p0 x3 x7 x8 x9 au w5 w6 cY iF rz L1 L2 h)
 (Ul P K p0 x3 x7 x8 x9 au w5 w6 cY iF undef L1 L2 h)):=az (by kernel_rfl)
theorem aCV (p0 x3 x7 x8 cY:Value) (L1 L2:LQ) (x9:Value) (h:ae):aj9 P K p0 x3 x7 x8 cY L1 L2 [x9] h=
 (Dj (At h cY) fun gG z1=>
 OP (ca 0 gG) fun jv=>
 aO jv
 (OP (zX z1 cY) fun eP=>
 OP (ca 0 eP) fun fW=>
 OP (ai .and fW x8) fun fQ=>
 OP (ai .neq fQ x8) fun jS=>
 aka P K p0 x3 x7 x8 x9 fW cY jS L1 L2 z1)
 (akc P K p0 x3 x7 x8 x9 L1 z1)):=az (by kernel_rfl)
theorem aCY:akc P K p0 x3 x7 x8 x9 L1 h=
 (OH (cW 131 1 [(.int .u16 (0))] h [(0,1,x9)]) fun AL z1=>
 OH (dM 131 1 2 z1 x7 AL) fun sw z2=>
 OP (ai .or x8 x9) fun AN=>
 ([p0,x3]:List Value)=[p0,x3]∧L1 [sw,AN] z2):=az (by kernel_rfl)
theorem aCU (p0 x3:Value) (L1:LQ) (x7 x8:Value) (h:ae):aj8 P K p0 x3 L1 [x7,x8] h=
 (ak P 61 [p0] h fun cB z1=>
 OP (ai .neq x8 cB) fun cT=>
 aO cT
 (OH (B7 z1 x3) fun cY z2=>
 cN [(.int .u16 (0))] z2 fun L2 xs hx=>
 aj9 P K p0 x3 x7 x8 cY L1 L2 xs hx)
 (akd P K x7 z1)):=az (by kernel_rfl)
theorem aCZ:akd P K x7 h=
 (K x7 h):=az (by kernel_rfl)
theorem aCT:aj7 P K p0 x3 h=
 (cN [(.slice none 0 0),(.int .u16 (0))] h fun L1 xs hx=>
 aj8 P K p0 x3 L1 xs hx):=az (by kernel_rfl)
def Of:Prop:=
 OH (Jz (.int .u16) h) fun aI z1=>
 ak P 61 [p0] z1 fun bp z2=>
 OP (c8 .i64 bp) fun bY=>
 OP (ai .add bY (.int .i64 (1))) fun aR=>
 cN [(.int .i64 (0))] z2 fun L1 xs hx=>
 ake P K p0 aI aR L1 xs hx
theorem e73:iB P HW (aS [.tmp 2] K) (bw [p0]) h=Of P K p0 h:=by kernel_rfl
theorem f73 {K:VK} {p0:Value} {h:ae} (H:Of prog K p0 h):C7 prog 73 [p0] h K:=
 aua k73 (bL rfl) ((e73 prog K p0 h).mpr H)
end
end
end Go.Proofs.YtelmdbpaoifmoaaGreat
namespace Go.Sim
section
def mH (f:Nat→Int) (s:Nat):Nat→Int
 | 0=>0
 | i+1=>mH f s i+if s.testBit i=true then f i else 0
theorem Lq (f:Nat→Int) (s:Nat):∀n,jt (nO s n) f=mH f s n
 | 0=>rfl
 | n+1=>by
  simp only [nO,mH]
  split
  ·rw [CK,Lq f s n];simp [jt]
  ·rw [Lq f s n];simp
theorem VD (f:Nat→Int) (a b:Nat):∀n,mH f (a ||| b) n+mH f (a &&& b) n=mH f a n+mH f b n
 | 0=>rfl
 | n+1=>by
  have h:=VD f a b n
  simp only [mH,testBit_or,testBit_and]
  cases a.testBit n <;> cases b.testBit n <;> simp <;> omega
theorem VE (f:Nat→Int):∀n,mH f 0 n=0
 | 0=>rfl
 | n+1=>by simp [mH,VE f n]
theorem Lr {f:Nat→Int} (h:∀i,0≤f i) (s:Nat):∀n,0≤mH f s n
 | 0=>Int.le_refl 0
 | n+1=>by
  have:=Lr h s n
  have:=h n
  simp only [mH]
  split <;> omega
theorem VC {f:Nat→Int} {c:Int} (h:∀i,0≤f i∧f i≤c) (s:Nat):∀n:Nat,mH f s n≤c*n
 | 0=>by simp [mH]
 | n+1=>by
  have h1:=VC h s n
  have h2:=h n
  have:c*((n+1:Nat):Int)=c*n+c:=by rw [Int.natCast_add,Int.mul_add];simp
  simp only [mH]
  split <;> omega
theorem amq {f:Nat→Int} (h0:∀i,0≤f i) {s i:Nat} (hb:s.testBit i=true) (h1:1≤f i):∀{n:Nat},i<n→1≤mH f s n
 | n+1,hi=>by
  simp only [mH]
  by_cases e:i=n
  ·subst e
   have:=Lr h0 s i
   rw [hb];simp;omega
  ·have:=amq h0 hb h1 (n:=n) (by omega)
   have:=h0 n
   split <;> omega
def rI (bs:List Nat) (n s:Nat):Bool:=(List.range n).all fun i=> !s.testBit i||jL (bs.getD i 0) s
theorem xc {bs:List Nat} {n s:Nat}:rI bs n s=true↔∀i,i<n→s.testBit i=true→∀j,(bs.getD i 0).testBit j=true→s.testBit j=true:=by
 unfold rI
 rw [List.all_eq_true]
 constructor
 ·intro h i hi hb
  have:=h i (mem_range.2 hi)
  rw [hb,Bool.not_true,Bool.false_or,pB] at this
  exact this
 ·intro h i hi
  rw [mem_range] at hi
  cases hb:s.testBit i with
  | false=>rfl
  | true=>rw [Bool.not_true,Bool.false_or,pB];exact h i hi hb
structure fh (bs:List Nat) (n d m:Nat):Prop where
 lt:m<2^n
 ne:m≠0
 apart:d &&& m=0
 cl:rI bs n (d ||| m)=true
def lS (js:List (Int×Int)) (s:Nat):Int:=mH (fP js) s 10
def wS (js:List (Int×Int)) (s:Nat):Int:=mH (jP js) s 10
def nW (bs:List Nat) (js:List (Int×Int)) (n d m:Nat):Prop:=fh bs n d m∧∀x,fh bs n d x→wS js x*lS js m≤wS js m*lS js x
def rC (bs:List Nat) (js:List (Int×Int)) (n d b:Nat):Prop:=nW bs js n d b∧∀m,nW bs js n d m→jL m b=true
theorem aER {a b:Nat} (h:jL a b=true) (k:jL b a=true):a=b:=by
 rw [pB] at h k
 apply eq_of_testBit_eq
 intro i
 cases ha:a.testBit i with
 | true=>rw [h i ha]
 | false=>
  cases hb:b.testBit i with
  | true=>rw [k i hb] at ha;cases ha
  | false=>rfl
theorem rC.uniq {bs:List Nat} {js:List (Int×Int)} {n d a b:Nat} (h:rC bs js n d a) (k:rC bs js n d b):a=b:=aER (k.2 a h.1) (h.2 b k.1)
structure pI (js:List (Int×Int)) (n:Nat):Prop where
 l0:∀i,0≤fP js i
 l1:∀i,i<n→1≤fP js i
 w0:∀i,0≤jP js i
theorem OT {s:Nat} (h:s≠0):∃i,s.testBit i=true:=Nat.exists_testBit_of_ne_zero h
theorem Bc {s n i:Nat} (hs:s<2^n) (hb:s.testBit i=true):i<n:=by
 apply byContradiction
 intro cE
 rw [Nat.testBit_lt_two_pow (lt_of_lt_of_le hs (pow_le_pow_right (by decide) (by omega)))] at hb
 cases hb
theorem wq {js:List (Int×Int)} {n s:Nat} (h:pI js n) (hn:n≤10) (hs:s<2^n) (h0:s≠0):1≤lS js s:=by
 obtain ⟨i,hi⟩:=OT h0
 have iW:=Bc hs hi
 exact amq h.l0 hi (h.l1 i iW) (by omega)
theorem aqB {d a b:Nat} (ha:d &&& a=0) (hb:d &&& b=0):d &&& (a ||| b)=0:=by
 rw [YM] at ha hb⊢
 intro j hj
 rw [testBit_or,ha j hj,hb j hj];rfl
theorem fh.or {bs:List Nat} {n d a b:Nat} (ha:fh bs n d a) (hb:fh bs n d b):fh bs n d (a ||| b):=by
 refine ⟨Nat.or_lt_two_pow ha.lt hb.lt,?_,aqB ha.apart hb.apart,?_⟩
 ·intro h
  have h1:a≤a ||| b:=Nat.left_le_or
  have:=ha.ne
  omega
 ·have h1:=xc.1 ha.cl
  have h2:=xc.1 hb.cl
  refine xc.2 fun i hi BB j hj=>?_
  rw [testBit_or,testBit_or] at BB⊢
  by_cases hx:(d ||| a).testBit i=true
  ·have:=h1 i hi hx j hj
   rw [testBit_or] at this
   cases hd:d.testBit j <;> cases hA:a.testBit j <;> cases hB:b.testBit j <;> simp_all
  ·have bS:(d ||| b).testBit i=true:=by
    rw [testBit_or] at hx⊢
    cases hd:d.testBit i <;> cases hA:a.testBit i <;> cases hB:b.testBit i <;> simp_all
   have:=h2 i hi bS j hj
   rw [testBit_or] at this
   cases hd:d.testBit j <;> cases hA:a.testBit j <;> cases hB:b.testBit j <;> simp_all
theorem fh.and {bs:List Nat} {n d a b:Nat} (ha:fh bs n d a) (hb:fh bs n d b) (h0:a &&& b≠0):fh bs n d (a &&& b):=by
 refine ⟨Nat.and_lt_two_pow _ hb.lt,h0,?_,?_⟩
 ·have h1:=ha.apart
  rw [YM] at h1⊢
  intro j hj
  rw [testBit_and,h1 j hj];rfl
 ·have h1:=xc.1 ha.cl
  have h2:=xc.1 hb.cl
  refine xc.2 fun i hi BB j hj=>?_
  rw [testBit_or,testBit_and] at BB⊢
  have q1:(d ||| a).testBit i=true:=by
   rw [testBit_or]
   cases hd:d.testBit i <;> cases hA:a.testBit i <;> cases hB:b.testBit i <;> simp_all
  have q2:(d ||| b).testBit i=true:=by
   rw [testBit_or]
   cases hd:d.testBit i <;> cases hA:a.testBit i <;> cases hB:b.testBit i <;> simp_all
  have r1:=h1 i hi q1 j hj
  have r2:=h2 i hi q2 j hj
  rw [testBit_or] at r1 r2
  cases hd:d.testBit j <;> cases hA:a.testBit j <;> cases hB:b.testBit j <;> simp_all
section
variable {bs : List Nat} {js : List (Int × Int)} {n d : Nat}
theorem PQ {w1 l1 w2 l2 w3 l3:Int} (p1:1≤l1) (p2:1≤l2) (p3:1≤l3) (h:w1*l2≤w2*l1) (k:w2*l3≤w3*l2):w1*l3≤w3*l1:=by
 have h1:w1*l2*l3≤w2*l1*l3:=Int.mul_le_mul_of_nonneg_right h (by omega)
 have h2:w2*l3*l1≤w3*l2*l1:=Int.mul_le_mul_of_nonneg_right k (by omega)
 have e1:w2*l1*l3=w2*l3*l1:=by rw [mul_assoc,Int.mul_comm l1 l3,←mul_assoc]
 have e2:w1*l2*l3=w1*l3*l2:=by rw [mul_assoc,Int.mul_comm l2 l3,←mul_assoc]
 have e3:w3*l2*l1=w3*l1*l2:=by rw [mul_assoc,Int.mul_comm l2 l1,←mul_assoc]
 have h3:w1*l3*l2≤w3*l1*l2:=by omega
 exact Int.le_of_mul_le_mul_right h3 (by omega)
theorem nW.avF {a b:Nat} (ha:nW bs js n d a) (hb:nW bs js n d b):wS js a*lS js b=wS js b*lS js a:=
 Int.le_antisymm (hb.2 a ha.1) (ha.2 b hb.1)
theorem nW.same (P:pI js n) (hn:n≤10) {a b:Nat} (ha:nW bs js n d a) (hb:fh bs n d b) (h:wS js a*lS js b≤wS js b*lS js a):nW bs js n d b:=by
 refine ⟨hb,fun x hx=>?_⟩
 exact PQ (wq P hn hx.lt hx.ne) (wq P hn ha.1.lt ha.1.ne) (wq P hn hb.lt hb.ne) (ha.2 x hx) h
theorem nW.or (P:pI js n) (hn:n≤10) {a b:Nat} (ha:nW bs js n d a) (hb:nW bs js n d b):nW bs js n d (a ||| b):=by
 refine ha.same P hn (ha.1.or hb.1) ?_
 have ew:=VD (jP js) a b 10
 have el:=VD (fP js) a b 10
 have e:=ha.avF hb
 have hand:wS js (a &&& b)*lS js a≤wS js a*lS js (a &&& b):=by
  by_cases h0:a &&& b=0
  ·rw [h0]
   have:wS js 0=0:=VE _ _
   have e2:lS js 0=0:=VE _ _
   rw [this,e2];simp
  ·exact ha.2 _ (ha.1.and hb.1 h0)
 have e1:wS js (a ||| b)=wS js a+wS js b-wS js (a &&& b):=by unfold wS;omega
 have e2:lS js (a ||| b)=lS js a+lS js b-lS js (a &&& b):=by unfold lS;omega
 rw [e1,e2,Int.mul_sub,Int.mul_add,Int.sub_mul,Int.add_mul]
 omega
theorem avL (P:pI js n) (hn:n≤10) {m:Nat} (hm:fh bs n d m):∃a,nW bs js n d a:=by
 have key:∀k,(∃a,a<k∧fh bs n d a)→∃a,a<k∧fh bs n d a∧∀x,x<k→fh bs n d x→wS js x*lS js a≤wS js a*lS js x:=by
  intro k
  induction k with
  | zero=>rintro ⟨a,h,_⟩;omega
  | succ k ih=>
   rintro ⟨a,ha,hr⟩
   by_cases sY:∃a,a<k∧fh bs n d a
   ·obtain ⟨b,hb,qQ,lT⟩:=ih sY
    by_cases hk:fh bs n d k∧wS js b*lS js k<wS js k*lS js b
    ·refine ⟨k,by omega,hk.1,fun x hx xK=>?_⟩
     by_cases ER:x=k
     ·subst ER;exact Int.le_refl _
     ·exact PQ (wq P hn xK.lt xK.ne) (wq P hn qQ.lt qQ.ne) (wq P hn hk.1.lt hk.1.ne) (lT x (by omega) xK) (Int.le_of_lt hk.2)
    ·refine ⟨b,by omega,qQ,fun x hx xK=>?_⟩
     by_cases ER:x=k
     ·subst ER
      apply byContradiction
      intro hc
      exact hk ⟨xK,by omega⟩
     ·exact lT x (by omega) xK
   ·have hak:a=k:=by
     apply byContradiction
     intro bk
     exact sY ⟨a,by omega,hr⟩
    subst hak
    refine ⟨a,by omega,hr,fun x hx xK=>?_⟩
    by_cases ER:x=a
    ·subst ER;exact Int.le_refl _
    ·exact absurd ⟨x,by omega,xK⟩ sY
 obtain ⟨a,_,hr,lT⟩:=key (2^n) ⟨m,hm.lt,hm⟩
 exact ⟨a,hr,fun x hx=>lT x hx.lt hx⟩
structure jh (bs:List Nat) (js:List (Int×Int)) (n d:Nat) (Sn:Nat→Prop) (bc:Nat):Prop where
 rel:bc≠0→fh bs n d bc
 none:bc=0→∀m,Sn m→¬fh bs n d m
 max:∀m,Sn m→nW bs js n d m→nW bs js n d bc∧jL m bc=true
theorem jh.skip {Sn:Nat→Prop} {bc m:Nat} (h:jh bs js n d Sn bc) (hm:¬fh bs n d m):jh bs js n d (fun x=>Sn x∨x=m) bc:=by
 refine ⟨h.rel,fun hb x hx=>?_,fun x hx lT=>?_⟩
 ·rcases hx with hx | rfl
  ·exact h.none hb x hx
  ·exact hm
 ·rcases hx with hx | rfl
  ·exact h.max x hx lT
  ·exact absurd lT.1 hm
theorem aEU (a:Nat):jL a a=true:=pB.2 fun _ h=>h
theorem aES (a b:Nat):jL a (a ||| b)=true:=pB.2 fun _ h=>by rw [testBit_or,h];rfl
theorem aET (a b:Nat):jL b (a ||| b)=true:=pB.2 fun _ h=>by rw [testBit_or,h];simp
theorem aEV {a b c:Nat} (h:jL a b=true) (k:jL b c=true):jL a c=true:=by
 rw [pB] at h k⊢
 exact fun i hi=>k i (h i hi)
theorem jh.take (_:pI js n) (_:n≤10) {Sn:Nat→Prop} {bc m:Nat} (h:jh bs js n d Sn bc) (hm:fh bs n d m) (hb:bc=0∨wS js bc*lS js m<wS js m*lS js bc):jh bs js n d (fun x=>Sn x∨x=m) m:=by
 refine ⟨fun _=>hm,fun h0=>absurd h0 hm.ne,fun x hx lT=>?_⟩
 rcases hx with hx | rfl
 ·exfalso
  rcases hb with hb | hb
  ·exact h.none hb x hx lT.1
  ·have:=(h.max x hx lT).1.2 m hm
   omega
 ·exact ⟨lT,aEU _⟩
theorem jh.join (P:pI js n) (hn:n≤10) {Sn:Nat→Prop} {bc m:Nat} (h:jh bs js n d Sn bc) (hm:fh bs n d m) (h0:bc≠0) (hb:wS js bc*lS js m=wS js m*lS js bc):jh bs js n d (fun x=>Sn x∨x=m) (bc ||| m):=by
 have hr:=(h.rel h0).or hm
 refine ⟨fun _=>hr,fun h1=>absurd h1 hr.ne,fun x hx lT=>?_⟩
 rcases hx with hx | rfl
 ·obtain ⟨q1,q2⟩:=h.max x hx lT
  exact ⟨q1.or P hn (q1.same P hn hm (Int.le_of_eq hb)),aEV q2 (aES _ _)⟩
 ·have q1:=lT.same P hn (h.rel h0) (Int.le_of_eq hb.symm)
  exact ⟨q1.or P hn lT,aET _ _⟩
theorem jh.pass (_:pI js n) (_:n≤10) {Sn:Nat→Prop} {bc m:Nat} (h:jh bs js n d Sn bc) (hm:fh bs n d m) (h0:bc≠0) (hb:wS js m*lS js bc<wS js bc*lS js m):jh bs js n d (fun x=>Sn x∨x=m) bc:=by
 refine ⟨h.rel,fun h1=>absurd h1 h0,fun x hx lT=>?_⟩
 rcases hx with hx | rfl
 ·exact h.max x hx lT
 ·have:=lT.2 bc (h.rel h0)
  omega
theorem jh.all (P:pI js n) (hn:n≤10) {Sn:Nat→Prop} {bc m:Nat} (h:jh bs js n d Sn bc) (fJ:∀x,fh bs n d x→Sn x) (hm:fh bs n d m):rC bs js n d bc:=by
 obtain ⟨a,ha⟩:=avL P hn hm
 exact ⟨(h.max a (fJ a ha.1) ha).1,fun x hx=>(h.max x (fJ x hx.1) hx).2⟩
end
end
section
def mh (bs:List Nat) (js:List (Int×Int)) (n:Nat):Nat→List Nat→Prop
 | d,[]=>d=cK n
 | d,b::l=>rC bs js n d b∧mh bs js n (d ||| b) l
theorem fh.SY {bs:List Nat} {n m:Nat}:¬fh bs n (cK n) m:=by
 intro h
 obtain ⟨i,hi⟩:=OT h.ne
 have iW:=Bc h.lt hi
 have:(cK n &&& m).testBit i=true:=by rw [testBit_and,xo,hi];simp [iW]
 rw [h.apart] at this
 simp at this
theorem mh.uniq {bs:List Nat} {js:List (Int×Int)} {n:Nat}:∀{l l':List Nat} {d:Nat},mh bs js n d l→mh bs js n d l'→l=l'
 | [],[],_,_,_=>rfl
 | [],b::l',d,h,k=>by
  have h':d=cK n:=h
  subst h'
  exact absurd k.1.1.1 fh.SY
 | b::l,[],d,h,k=>by
  have k':d=cK n:=k
  subst k'
  exact absurd h.1.1.1 fh.SY
 | b::l,b'::l',d,h,k=>by
  have e:=h.1.uniq k.1
  subst e
  rw [mh.uniq h.2 k.2]
theorem jh.congr {bs:List Nat} {js:List (Int×Int)} {n d:Nat} {Sn Yy:Nat→Prop} {bc:Nat} (h:jh bs js n d Sn bc) (e:∀x,Yy x→Sn x):jh bs js n d Yy bc:=
 ⟨h.rel,fun hb m hm=>h.none hb m (e m hm),fun m hm=>h.max m (e m hm)⟩
theorem jh.start (bs:List Nat) (js:List (Int×Int)) (n d:Nat) {Sn:Nat→Prop} (h:∀x,¬Sn x):jh bs js n d Sn 0:=
 ⟨fun h0=>absurd rfl h0,fun _ m hm=>absurd hm (h m),fun m hm=>absurd hm (h m)⟩
theorem jh.ex {bs:List Nat} {js:List (Int×Int)} {n d:Nat} (P:pI js n) (hn:n≤10):∀L:List Nat,∃bc,jh bs js n d (fun x=>x∈L) bc
 | []=>⟨0,.start _ _ _ _ fun x hx=>by simp at hx⟩
 | m::L=>by
  obtain ⟨bc,h⟩:=jh.ex P hn L
  have key:∀{b:Nat},jh bs js n d (fun x=>x∈L∨x=m) b→∃bc,jh bs js n d (fun x=>x∈m::L) bc:=
   fun {b} q=>⟨b,q.congr fun x hx=>by rcases mem_cons.1 hx with h | h;exact .inr h;exact .inl h⟩
  by_cases hm:fh bs n d m
  ·by_cases h0:bc=0
   ·exact key (h.take P hn hm (.inl h0))
   ·by_cases c1:wS js bc*lS js m<wS js m*lS js bc
    ·exact key (h.take P hn hm (.inr c1))
    ·by_cases c2:wS js bc*lS js m=wS js m*lS js bc
     ·exact key (h.join P hn hm h0 c2)
     ·exact key (h.pass P hn hm h0 (by omega))
  ·exact key (h.skip hm)
theorem aul {bs:List Nat} {n:Nat} (hb:∀b∈bs,b<2^n):rI bs n (cK n)=true:=by
 rw [xc]
 intro i hi _ j hj
 rw [xo]
 have:bs.getD i 0<2^n:=by
  by_cases h:i<bs.length
  ·have e:bs.getD i 0=bs[i]:=by simp [getD_eq_getElem?_getD,h]
   rw [e];exact hb _ (getElem_mem h)
  ·have e:bs.getD i 0=0:=by simp only [getD_eq_getElem?_getD];rw [List.getElem?_eq_none (by omega)];rfl
   rw [e];exact Nat.pow_pos (by decide)
 exact aZ (Bc this hj)
theorem aia {d s:Nat} (h:s &&& d=d):d ||| od s d=s:=by
 apply eq_of_testBit_eq
 intro i
 have:=congrArg (Nat.testBit · i) h
 simp only [testBit_and] at this
 rw [testBit_or,Bk]
 cases hs:s.testBit i <;> cases hd:d.testBit i <;> simp_all
theorem alZ {bs:List Nat} {n d s:Nat} (hs:s<2^n) (hc:rI bs n s=true) (h:s &&& d=d) (bk:s≠d):fh bs n d (od s d):=by
 refine ⟨Nat.lt_of_le_of_lt (acy _ _) hs,fun h0=>?_,?_,by rw [aia h];exact hc⟩
 ·apply bk
  have e:=aia h
  rw [h0,Nat.or_zero] at e
  exact e.symm
 ·apply eq_of_testBit_eq
  intro i
  rw [testBit_and,Bk]
  cases d.testBit i <;> simp
theorem ah3 {bs:List Nat} {n d m:Nat} (hd:d<2^n) (h:fh bs n d m):(d ||| m<2^n∧rI bs n (d ||| m)=true)∧((d ||| m) &&& d=d∧d ||| m≠d)∧m=od (d ||| m) d:=by
 have hb:∀i,m.testBit i=true→d.testBit i=false:=fun i hi=>by
  cases nG:d.testBit i with
  | false=>rfl
  | true=>
   have:(d &&& m).testBit i=true:=by rw [testBit_and,hi,nG];rfl
   rw [h.apart] at this
   simp at this
 refine ⟨⟨Nat.or_lt_two_pow hd h.lt,h.cl⟩,⟨?_,fun he=>?_⟩,?_⟩
 ·apply eq_of_testBit_eq
  intro i
  rw [testBit_and,testBit_or]
  cases d.testBit i <;> simp
 ·obtain ⟨i,hi⟩:=OT h.ne
  have h2:(d ||| m).testBit i=true:=by rw [testBit_or,hi];simp
  rw [he,hb i hi] at h2
  cases h2
 ·apply eq_of_testBit_eq
  intro i
  rw [Bk,testBit_or]
  cases hi:m.testBit i with
  | true=>rw [hb i hi];rfl
  | false=>cases d.testBit i <;> rfl
theorem alY {bs:List Nat} {n d:Nat} (hb:∀b∈bs,b<2^n) (hd:d<cK n):fh bs n d (od (cK n) d):=by
 have hf:cK n<2^n:=ade n
 refine alZ hf (aul hb) ?_ (by omega)
 apply eq_of_testBit_eq
 intro i
 rw [testBit_and,xo]
 cases hi:d.testBit i with
 | false=>simp
 | true=>
  have:=Bc (Nat.lt_trans hd hf) hi
  simp [this]
theorem rC.ex {bs:List Nat} {js:List (Int×Int)} {n d:Nat} (P:pI js n) (hn:n≤10) (hb:∀b∈bs,b<2^n) (hd:d<cK n):∃b,rC bs js n d b:=by
 obtain ⟨bc,h⟩:=jh.ex (bs:=bs) (d:=d) P hn (List.range (2^n))
 exact ⟨bc,h.all P hn (fun x hx=>mem_range.2 hx.lt) (alY hb hd)⟩
theorem rC.step {bs:List Nat} {js:List (Int×Int)} {n d b:Nat} (hd:d<2^n) (h:rC bs js n d b):d<d ||| b∧d ||| b<2^n∧b<2^n:=by
 obtain ⟨⟨h1,_⟩,⟨h2,h3⟩,_⟩:=ah3 hd h.1.1
 have hle:d≤d ||| b:=Nat.left_le_or
 exact ⟨by omega,h1,h.1.1.lt⟩
theorem mh.ex {bs:List Nat} {js:List (Int×Int)} {n:Nat} (P:pI js n) (hn:n≤10) (hb:∀b∈bs,b<2^n):∀(k d:Nat),d<2^n→cK n-d≤k→∃l,mh bs js n d l
 | 0,d,hd,h=>⟨[],by show d=cK n;unfold cK at*;omega⟩
 | k+1,d,hd,h=>by
  by_cases e:d=cK n
  ·exact ⟨[],e⟩
  ·obtain ⟨b,hs⟩:=rC.ex (bs:=bs) (js:=js) P hn hb (show d<cK n by unfold cK at*;omega)
   obtain ⟨h1,h2,h3⟩:=hs.step hd
   obtain ⟨l,hl⟩:=mh.ex P hn hb k (d ||| b) h2 (by omega)
   exact ⟨b::l,hs,hl⟩
theorem mh.lt {bs:List Nat} {js:List (Int×Int)} {n:Nat}:∀{l:List Nat} {d:Nat},d<2^n→mh bs js n d l→∀b∈l,b<2^n
 | [],_,_,_,b,hb=>by simp at hb
 | c::l,d,hd,h,b,hb=>by
  obtain ⟨h1,h2,h3⟩:=h.1.step hd
  rcases mem_cons.1 hb with rfl | hb
  ·exact h3
  ·exact mh.lt h2 h.2 b hb
def jT (bs:List Nat) (n k:Nat):List Nat:=(List.range k).filter (rI bs n)
theorem anC (bs:List Nat) (n k:Nat):jT bs n (k+1)=if rI bs n k=true then jT bs n k++[k] else jT bs n k:=by
 unfold jT
 rw [List.range_succ,List.filter_append]
 by_cases h:rI bs n k=true
 ·rw [if_pos h];simp [h]
 ·rw [if_neg h];simp [h]
theorem Ma {bs:List Nat} {n k s:Nat} (h:s∈jT bs n k):s<k∧rI bs n s=true:=by
 have:=mem_filter.1 h
 exact ⟨mem_range.1 this.1,this.2⟩
theorem anB {bs:List Nat} {n k s:Nat} (h1:s<k) (h2:rI bs n s=true):s∈jT bs n k:=mem_filter.2 ⟨mem_range.2 h1,h2⟩
def eX (k:IntKind) (l:List Nat):List (Nat×Value×Value):=l.map fun s=>(s,.int k (s:Int),B true)
theorem Qz (k:IntKind) (a b:Nat):mS (.int k (a:Int)) (.int k (b:Int))=decide (a=b):=by
 simp only [mS,xS,decide_true,Bool.true_and]
 by_cases h:a=b
 ·rw [aZ h,aZ (by omega)]
 ·rw [aU h,aU (by omega)]
theorem UI (k:IntKind) (s:Nat):∀{l:List Nat},s∉l→ma (.int k (s:Int)) (eX k l)=none
 | [],_=>rfl
 | a::l,h=>by
  have h1:s≠a:=fun e=>h (by simp [e])
  have h2:s∉l:=fun e=>h (by simp [e])
  have ih:=UI k s h2
  show (if mS (.int k (s:Int)) (.int k (a:Int))=true then some 0 else (ma (.int k (s:Int)) (eX k l)).map (·+1))=none
  rw [Qz,aU h1,ih]
  rfl
theorem akS (k:IntKind) (s:Nat):∀{l:List Nat},s∉l→ma (.int k (s:Int)) (eX k (l++[s]))=some l.length
 | [],_=>by
  show (if mS (.int k (s:Int)) (.int k (s:Int))=true then some 0 else _)=_
  rw [Qz];simp
 | a::l,h=>by
  have h1:s≠a:=fun e=>h (by simp [e])
  have h2:s∉l:=fun e=>h (by simp [e])
  have ih:=akS k s h2
  show (if mS (.int k (s:Int)) (.int k (a:Int))=true then some 0 else (ma (.int k (s:Int)) (eX k (l++[s]))).map (·+1))=_
  rw [Qz,aU h1,ih]
  rfl
theorem afT (k:IntKind) (l m:List Nat):eX k (l++m)=eX k l++eX k m:=by simp [eX]
theorem afU (k:IntKind) (l:List Nat):(eX k l).length=l.length:=by simp [eX]
theorem amj (k:IntKind) {s:Nat} {l:List Nat} (h:s∉l):mb s (.int k (s:Int)) (B true) (eX k l)=eX k (l++[s])∧oY s (.int k (s:Int)) (eX k l)=s+1:=by
 unfold mb oY
 rw [UI k s h,afT]
 exact ⟨rfl,rfl⟩
theorem avG (k:IntKind) {s:Nat} {l:List Nat} (h:s∉l):rJ (.int k (s:Int)) (eX k (l++[s]))=eX k l:=by
 unfold rJ
 rw [akS k s h]
 simp only
 rw [afT,List.eraseIdx_append_of_length_le (by rw [afU];exact le_refl _),afU]
 simp [eX]
theorem avH (k:IntKind) {s:Nat} {l:List Nat} (h:s∉l):rJ (.int k (s:Int)) (eX k l)=eX k l:=by
 unfold rJ
 rw [UI k s h]
theorem ac5 (k:IntKind) (s:Nat):∀{l:List Nat},s∈l→(eX k l).find? (fun e=>e.1==s)=some (s,.int k (s:Int),B true)
 | a::l,h=>by
  by_cases e:a=s
  ·subst e;simp [eX]
  ·have h2:s∈l:=by rcases mem_cons.1 h with h | h;exact absurd h.symm e;exact h
   have ih:=ac5 k s h2
   have e2:(a==s)=false:=by simpa using e
   rw [show eX k (a::l)=(a,.int k (a:Int),B true)::eX k l from rfl,List.find?_cons]
   simp only [e2]
   exact ih
theorem azA {h:ae} {im it c:Nat} {k:IntKind} {l seen:List Nat} (hm:h[im]?=some (.di (.int k) c (eX k l))) (hi:h[it]?=some (.iter im c seen c)) (hl:∀s∈l,s<c):
  At h (pt it 0)=some ((if (l.filter fun s=> !seen.contains s).isEmpty=true then [(.tuple #[.bool false],h)] else [])++
   (l.filter fun s=> !seen.contains s).map fun s=>(.tuple #[.bool true,.int k (s:Int),B true],h.set it (.iter im c (seen++[s]) c))):=by
 have e1:(eX k l).filter (fun e=> !seen.contains e.1)=eX k (l.filter fun s=> !seen.contains s):=by
  unfold eX
  rw [List.filter_map]
  rfl
 have nK:∀s∈l.filter (fun s=> !seen.contains s),s<c:=fun s hs=>hl s (mem_filter.1 hs).1
 have e2:∀l':List Nat,(∀s∈l',s<c)→(eX k l').filter (fun e=>decide (e.1<c))=eX k l'∧(eX k l').filter (fun e=>decide (c≤e.1))=[]:=by
  intro l' lR
  refine ⟨List.filter_eq_self.2 ?_,List.filter_eq_nil_iff.2 ?_⟩
  ·intro x hx
   obtain ⟨s,hs,rfl⟩:=mem_map.1 hx
   exact aZ (lR s hs)
  ·intro x hx
   obtain ⟨s,hs,rfl⟩:=mem_map.1 hx
   have:=lR s hs
   simp only [decide_eq_true_eq]
   omega
 have e3:(!seen.isEmpty&& !(eX k l).isEmpty&&(eX k l).all fun e=>decide (c≤e.1))=false:=by
  cases l with
  | nil=>simp [eX]
  | cons a l=>
   have:=hl a (by simp)
   have:decide (c≤a)=false:=aU (by omega)
   simp [eX,this]
 simp only [At,pt,hi,hm,e3,false_eq_true,if_false,e1,(e2 _ nK).1,(e2 _ nK).2,List.append_nil]
 congr 2
 ·cases h1:l.filter (fun s=> !seen.contains s) <;> rfl
 ·unfold eX
  rw [List.map_map]
  rfl
end
end Go.Sim
namespace Go.Proofs.YtelmdbpaoifmoaaGreat
open Go.Sim
section
theorem qp.pos {js:List (Int×Int)} {n:Nat} (h:qp js) (hn:js.length=n):pI js n:=
 ⟨fun i=>(h.all i).1.1,fun i hi=>by unfold fP;exact (h.getD (by omega)).1.1,fun i=>(h.all i).2.1⟩
theorem SB (s:Nat):∀n,cO s n=nO s n
 | 0=>rfl
 | n+1=>by simp only [cO,nO,SB s n]
theorem amt (js:List (Int×Int)) (s:Nat):wK js (cO s 10)=lS js s:=by
 rw [SB];exact Lq (fP js) s 10
theorem amx (js:List (Int×Int)) (s:Nat):wL js (cO s 10)=wS js s:=by
 rw [SB];exact Lq (jP js) s 10
theorem afy {js:List (Int×Int)} (h:qp js) (s:Nat):0≤lS js s∧lS js s≤500:=
 ⟨Lr (fun i=>(h.all i).1.1) s 10,VC (c:=50) (fun i=>(h.all i).1) s 10⟩
theorem amJ {js:List (Int×Int)} (h:qp js) (s:Nat):0≤wS js s∧wS js s≤500:=
 ⟨Lr (fun i=>(h.all i).2.1) s 10,VC (c:=50) (fun i=>(h.all i).2) s 10⟩
theorem agi {a b:Int} (ha:0≤a∧a≤500) (hb:0≤b∧b≤500):0≤a*b∧a*b≤250000:=by
 have h1:0≤a*b:=Int.mul_nonneg ha.1 hb.1
 have h2:a*b≤500*500:=Int.mul_le_mul ha.2 hb.2 hb.1 (by omega)
 omega
theorem acq {s:Nat} (hs:s<32768):c8 .u16 (I s)=some (U s):=by
 rw [jx,uI.wrap (by omega) (by omega)]
theorem aum {bs:List Nat} {n s:Nat} (hn:n≤10) (hs:s<2^n):rI bs n s=(cO s 10).all fun i=>jL (bs.getD i 0) s:=by
 rw [Bool.eq_iff_iff,xc,List.all_eq_true]
 constructor
 ·intro h i hi
  have h2:=(Cg s 10 i hi).2
  rw [pB]
  exact h i (Bc hs h2) h2
 ·intro h i hi hb
  have hm:i∈cO s 10:=by
   have key:∀m,i<m→i∈cO s m:=by
    intro m
    induction m with
    | zero=>intro h;omega
    | succ m ih=>
     intro dY
     simp only [cO]
     by_cases e:i=m
     ·subst e;rw [hb];simp
     ·have:=ih (by omega)
      split
      ·exact List.mem_append_left _ this
      ·exact this
   exact key 10 (by omega)
  exact pB.1 (h i hm)
theorem OD (a b:Nat):decide ((a:Int)=(b:Int))=decide (a=b):=by
 rw [decide_eq_decide];omega
theorem aFf {g:ae} {im:Nat} {s:Nat} {l:List Nat} (hg:g[im]?=some (.di (.int .u16) s (eX .u16 l))) (hs:s∉l):Co (.int .u16) g (.map (some im)) (U s) (.bool true)=some (undef,g.set im (.di (.int .u16) (s+1) (eX .u16 (l++[s])))):=by
 have h1:fc (.int .u16) (U s)=true:=rfl
 simp only [Co,B6,hg]
 rw [if_pos (by simp [h1,iM]),(amj .u16 hs).1,(amj .u16 hs).2]
 rfl
theorem DO {g:ae} {im c:Nat} {s:Nat} {es:List (Nat×Value×Value)} (hg:g[im]?=some (.di (.int .u16) c es)):SZ (.int .u16) g (.map (some im)) (U s)=some (.tuple #[],g.set im (.di (.int .u16) c (rJ (U s) es))):=by
 have h1:fc (.int .u16) (U s)=true:=rfl
 simp only [SZ,ET,hg]
 rw [if_pos (by simp [h1])]
 rfl
def Dl (d:Nat) (seen:List Nat) (m:Nat):Prop:=∃s∈seen,(s &&& d=d∧s≠d)∧m=od s d
theorem C73 {p:Value} {js:List (Int×Int)} {bs os:List Nat} {n:Nat} {h:ae} {K:Value→ae→Prop} (hp:PL h p js bs) (hn:js.length=n) (h1:1≤n) (sQ:n≤10) (nM:qp js) (xv:bs.length=n) (hb:∀b∈bs,b<2^n)
  (iI:mh bs js n 0 os) (hk:K (sl 131 h.length 0 os.length) (h++[.arr 131 (os.map fun b:Nat=>U b)])):ak prog 73 [p] h K:=by
 have plain:wD (.arr 131 (os.map fun b:Nat=>U b))=true:=by
  simp only [wD,List.all_map,List.all_eq_true]
  intro x _;rfl
 refine aub (V:=fun i=>sl 131 i 0 os.length) (o:=.arr 131 (os.map fun b:Nat=>U b)) (oW.sl 131 0 os.length) plain (f73 ?_) hk
 have h2n:(2:Nat)^n≤2^10:=pow_le_pow_right (by decide) sQ
 have two:2≤2^n:=by have:=pow_le_pow_right (show 0<2 by decide) h1;simpa using this
 have awp:∀b∈bs,b<1024:=fun b h=>lt_of_lt_of_le (hb b h) h2n
 have hfs:cK n+1=2^n:=by unfold cK;omega
 have P:=nM.pos hn
 unfold Of
 simp only [Jz,aB]
 have hp1:PL (h++[.di (.int .u16) 0 []]) p js bs:=hp.mono (EX.append _ _)
 refine WN hp1 (by omega) ?_
 rw [hn,adf]
 have wf:IntKind.wrap .i64 ((cK n:Nat):Int)=((cK n:Nat):Int):=wrap64 (by omega) (by omega)
 simp only [jx,wf,ah,cP,ft (cK n) (by omega),hfs]
 -- gN aGB aGE can auq first
 refine dI (σ:=Nat×ae) (fun q=>[I q.1]) (fun q=>q.2) (fun q=>q.1≤2^n∧EX h q.2∧q.2[h.length]?=some (.di (.int .u16) q.1 (eX .u16 (jT bs n q.1)))) (fun q=>2^n-q.1) (0,_) rfl rfl
  ⟨zero_le _,EX.append _ _,by simp [jT,eX]⟩ ?_
 rintro ⟨s,g⟩ ⟨hs,xg,hm⟩ L hL
 simp only at hs xg hm hL⊢
 rw [aC0]
 simp only [cS,ah,bW]
 refine ⟨fun aD=>?_,fun cE=>?_⟩
 ·have mX:s<2^n:=by omega
  have EA:s∉jT bs n s:=fun hx=>by have:=(Ma hx).1;omega
  simp only [acq (show s<32768 by omega),ah,aFf hm EA,aB]
  have xg1:EX h (g.set h.length (.di (.int .u16) (s+1) (eX .u16 (jT bs n s++[s])))):=xg.set (le_refl _) _
  have Rf:(g.set h.length (.di (.int .u16) (s+1) (eX .u16 (jT bs n s++[s]))))[h.length]?=some (.di (.int .u16) (s+1) (eX .u16 (jT bs n s++[s]))):=ck hm
  generalize g.set h.length (.di (.int .u16) (s+1) (eX .u16 (jT bs n s++[s])))=g1 at xg1 Rf⊢
  refine L5 (show s<1024 by omega) ?_
  intro v g2 nt zJ
  have Ak:bj v=some (I (cO s 10).length):=by have:=zJ.len;rwa [length_map] at this
  have BQ:=E0 s 10
  simp only [Ak,ah]
  refine dI (σ:=Nat×ae) (fun q=>[I q.1]) (fun q=>q.2) (fun q=>q.1≤(cO s 10).length∧(CX g2 q.2∧EX h q.2)∧q.2[h.length]?=some (.di (.int .u16) (s+1) (eX .u16 (if ((cO s 10).take q.1).all (fun i=>jL (bs.getD i 0) s)=true then jT bs n s++[s] else jT bs n s))))
   (fun q=>(cO s 10).length-q.1) (0,g2) rfl rfl ⟨zero_le _,⟨CX.refl _,xg1.trans nt⟩,by simpa using nt.get Rf⟩ ?_
  rintro ⟨k,g3⟩ ⟨Ra,⟨rA,Gb⟩,zF⟩ L2 iA
  simp only at Ra rA Gb zF iA⊢
  rw [aCR]
  simp only [cS,ah,bW]
  refine ⟨fun aed=>?_,fun aF4=>?_⟩
  ·have gv:k<(cO s 10).length:=by omega
   obtain ⟨b,o,r1,r2⟩:=(NS.Cl rA zJ).get k (by simpa using gv)
   have e:((cO s 10).map fun i:Nat=>(i:Int))[k]'(by simpa using gv)=((cO s 10)[k]:Int):=by simp
   rw [e] at r2
   have hi:=Cg s 10 _ (getElem_mem gv)
   have iW:=Bc mX hi.2
   obtain ⟨a,vj,vb,rfl,hc,hj,Ej⟩:=hp.mono Gb
   have ld:af false 1 g3 (pt a 1)=some vb:=by simp [af,hc,cf]
   obtain ⟨b2,o2,t1,t2⟩:=NS.awb Ej (i:=(cO s 10)[k]) (by omega)
   have QI:bs.getD (cO s 10)[k] 0<1024:=by
    have e3:bs.getD (cO s 10)[k] 0=bs[(cO s 10)[k]]'(by omega):=by simp [getD_eq_getElem?_getD,show (cO s 10)[k]<bs.length by omega]
    rw [e3];exact awp _ (getElem_mem _)
   have aqz:=YL uI QI (show s<1024 by omega)
   simp only [r1,r2,ah,JZ,cw,Nat.zero_add,ld,t1,t2,acq (show s<32768 by omega),aqz,qA]
   have ez:decide (((od (bs.getD (cO s 10)[k] 0) s:Nat):Int)=0)=jL (bs.getD (cO s 10)[k] 0) s:=by
    cases hq:jL (bs.getD (cO s 10)[k] 0) s with
    | true=>exact aZ (by have:=acz.2 hq;omega)
    | false=>exact aU (by intro h0;have:=acz.1 (show od (bs.getD (cO s 10)[k] 0) s=0 by omega);rw [hq] at this;cases this)
   rw [ez]
   have Jt:((cO s 10).take (k+1)).all (fun i=>jL (bs.getD i 0) s)=(((cO s 10).take k).all (fun i=>jL (bs.getD i 0) s)&&jL (bs.getD (cO s 10)[k] 0) s):=by
    rw [List.take_succ_eq_append_getElem gv,List.all_append];simp
   refine AU (fun hq=>?_) fun hq=>?_
   ·have gK:jL (bs.getD (cO s 10)[k] 0) s=false:=by simpa using hq
    simp only [DO zF,aB]
    rw [alJ]
    simp only [cP,ah,ft k (by omega),true_and]
    refine iA (k+1,_) ⟨by show k+1≤_;omega,⟨rA.trans (CX.mb zF),Gb.set (le_refl _) _⟩,?_⟩ (by show _-(k+1)<_-k;omega)
    rw [Jt,gK,Bool.and_false]
    simp only [false_eq_true,if_false]
    rw [ck zF]
    split
    ·rw [avG .u16 EA]
    ·rw [avH .u16 EA]
   ·have gK:jL (bs.getD (cO s 10)[k] 0) s=true:=by simpa using hq
    rw [alJ]
    simp only [cP,ah,ft k (by omega),true_and]
    refine iA (k+1,g3) ⟨by show k+1≤_;omega,⟨rA,Gb⟩,?_⟩ (by show _-(k+1)<_-k;omega)
    rw [Jt,gK,Bool.and_true]
    exact zF
  ·have vO:k=(cO s 10).length:=by omega
   subst vO
   rw [List.take_length,←aum sQ mX,←anC] at zF
   rw [aCS]
   simp only [cP,ah,ft s (by omega),true_and]
   exact hL (s+1,g3) ⟨by show s+1≤_;omega,Gb,zF⟩ (by show _-(s+1)<_-s;omega)
 ·have hse:s=2^n:=by omega
  subst hse
  rw [aCT]
  -- one set after gN other
  refine dI (σ:=Nat×List Nat×Value×ae) (fun q=>[q.2.2.1,U q.1]) (fun q=>q.2.2.2) (fun q=>q.1<2^n∧(∀r,mh bs js n q.1 r→mh bs js n 0 (q.2.1++r))∧q.2.1.length≤q.1∧
    (EX h q.2.2.2∧q.2.2.2[h.length]?=some (.di (.int .u16) (2^n) (eX .u16 (jT bs n (2^n)))))∧eJ (h.length+1) q.2.2.2 131 q.2.2.1 (q.2.1.map fun b:Nat=>U b)) (fun q=>2^n-q.1)
   (0,[],.slice none 0 0,g) rfl rfl ⟨by show 0<2^n;omega,fun r hr=>hr,le_refl _,⟨xg,hm⟩,.inl ⟨rfl,rfl⟩⟩ ?_
  rintro ⟨d,out,vo,g2⟩ ⟨hd,RD,gS,⟨nt,vQ⟩,own⟩ L1 hL1
  simp only at hd RD gS nt vQ own hL1⊢
  rw [aCU]
  refine WN (hp.mono nt) (by omega) ?_
  rw [hn,adf]
  simp only [qA,ah,OD]
  refine AU (fun bk=>?_) fun heq=>?_
  ·have hdf:d<cK n:=by simp at bk;omega
   have g2l:h.length<g2.length:=(bD vQ).1
   have rg:B7 g2 (.map (some h.length))=some (pt g2.length 0,g2++[.iter h.length (2^n) [] (2^n)]):=by
    simp only [B7,vQ]
   simp only [rg,aB]
   have xi:EX g2 (g2++[.iter h.length (2^n) [] (2^n)]):=EX.append _ _
   have gi:(g2++[aq.iter h.length (2^n) [] (2^n)])[g2.length]?=some (.iter h.length (2^n) [] (2^n)):=by simp
   generalize g2++[aq.iter h.length (2^n) [] (2^n)]=g3 at xi gi⊢
   refine dI (σ:=Nat×List Nat×ae) (fun q=>[U q.1]) (fun q=>q.2.2) (fun q=>q.1<2^n∧(∀s∈q.2.1,s∈jT bs n (2^n))∧jh bs js n d (Dl d q.2.1) q.1∧EX g2 q.2.2∧q.2.2[g2.length]?=some (.iter h.length (2^n) q.2.1 (2^n)))
    (fun q=>((jT bs n (2^n)).filter fun s=> !q.2.1.contains s).length) (0,[],g3) rfl rfl ⟨by show 0<2^n;omega,fun s hs=>by simp at hs,.start _ _ _ _ (fun x ⟨s,hs,_⟩=>by simp at hs),xi,gi⟩ ?_
   rintro ⟨bc,seen,g4⟩ ⟨zi,aeE,xM,CS,Jb⟩ L2 iA
   simp only at zi aeE xM CS Jb iA⊢
   rw [aCV]
   have hm4:=CS.get vQ
   rw [azA hm4 Jb (fun s hs=>(Ma hs).1),aqu]
   intro pr zN
   rcases mem_append.1 zN with zN | zN
   ·-- all aFj seen
    split at zN
    ·rename_i awx
     have:pr=(.tuple #[.bool false],g4):=by simpa using zN
     subst this
     have x0:ca 0 (.tuple #[Value.bool false])=some (.bool false):=rfl
     simp only [x0,ah,dR]
     have fJ:∀x,fh bs n d x→Dl d seen x:=by
      intro x hx
      obtain ⟨⟨c1,c2⟩,c3,c4⟩:=ah3 hd hx
      refine ⟨d ||| x,?_,c3,c4⟩
      have hme:=anB c1 c2
      apply byContradiction
      intro zJ
      have:(d ||| x)∈(jT bs n (2^n)).filter fun s=> !seen.contains s:=mem_filter.2 ⟨hme,by simpa using zJ⟩
      rw [List.isEmpty_iff.1 awx] at this
      simp at this
     have hS:=xM.all P sQ fJ (alY hb hdf)
     obtain ⟨s1,s2,s3⟩:=hS.step hd
     rw [aCY]
     have aie:eJ (h.length+1) g4 131 vo (out.map fun b:Nat=>U b):=own.dH fun d' n' hv lP=>by
      have:=(own.lt hv).2.1
      exact CS.2 d' this
     have xh4:=nt.trans CS
     refine Dn aie (by simp;omega) (by simp [maxLen];omega) rfl rfl ?_
     intro w1 bS _ hlen hold jz
     simp only [aB,orK uI (show d<1024 by omega) (show bc<1024 by omega),ah,true_and]
     have g4l:g2.length≤g4.length:=CS.1
     have dH:∀d',d'<g4.length→d'<h.length+1→bS[d']?=g4[d']?:=fun d' lP eD=>hold d' lP fun n' hv=>by
      have:=(aie.lt hv).1
      omega
     refine hL1 (d ||| bc,out++[bc],sl 131 (g4.length+1) 0 ((out.map fun b:Nat=>U b).length+1),bS) ⟨s2,?_,?_,⟨?_,?_⟩,?_⟩ (by show _-(d ||| bc)<_-d;omega)
     ·intro r hr
      have:=RD (bc::r) ⟨hS,hr⟩
      simpa using this
     ·show (out++[bc]).length≤d ||| bc
      simp;omega
     ·refine ⟨by have:=xh4.1;show h.length≤bS.length;omega,fun i hi=>?_⟩
      rw [dH i (by omega) (by omega)]
      exact xh4.2 i hi
     ·show bS[h.length]?=_
      rw [dH h.length (by omega) (by omega)]
      exact hm4
     ·refine .inr ⟨g4.length+1,by show h.length+1≤_;omega,?_,?_⟩
      ·show sl 131 (g4.length+1) 0 _=sl 131 (g4.length+1) 0 _
       simp
      ·show bS[g4.length+1]?=_
       rw [jz];simp
    ·simp at zN
   ·obtain ⟨s,B2,rfl⟩:=mem_map.1 zN
    obtain ⟨RB,hsn⟩:=mem_filter.1 B2
    obtain ⟨axt,axp⟩:=Ma RB
    have x0:ca 0 (.tuple #[Value.bool true,.int .u16 (s:Int),B true])=some (.bool true):=rfl
    simp only [x0,ah,dS]
    have nv:EX g2 (g4.set g2.length (.iter h.length (2^n) (seen++[s]) (2^n))):=CS.set (le_refl _) _
    have Qy:(g4.set g2.length (.iter h.length (2^n) (seen++[s]) (2^n)))[g2.length]?=some (.iter h.length (2^n) (seen++[s]) (2^n)):=ck Jb
    generalize g4.set g2.length (.iter h.length (2^n) (seen++[s]) (2^n))=g5 at nv Qy⊢
    have hm5:=nv.get vQ
    have en:zX g5 (pt g2.length 0)=some (.tuple #[U s,B true]):=by
     simp only [zX,pt,Qy,hm5,List.getLast?_append,List.getLast?_singleton,Option.some_or,if_true]
     rw [ac5 .u16 s RB]
     rfl
    have axq:∀x∈seen++[s],x∈jT bs n (2^n):=by
     intro x hx
     rcases mem_append.1 hx with hx | hx
     ·exact aeE x hx
     ·have:x=s:=by simpa using hx
      subst this;exact RB
    have awY:((jT bs n (2^n)).filter fun x=> !(seen++[s]).contains x).length<((jT bs n (2^n)).filter fun x=> !seen.contains x).length:=by
     have e1:(jT bs n (2^n)).filter (fun x=> !(seen++[s]).contains x)=((jT bs n (2^n)).filter fun x=> !seen.contains x).filter fun x=> !decide (x=s):=by
      rw [List.filter_filter]
      congr 1
      funext x
      rw [List.contains_eq_any_beq,List.contains_eq_any_beq,List.any_append]
      by_cases p6:x=s
      ·subst p6;simp
      ·have:(s==x)=false:=by simpa using fun h=>p6 h.symm
       simp [p6]
     rw [e1]
     exact List.length_filter_lt_length_iff_exists.2 ⟨s,B2,by simp⟩
    simp only [en,ah,eC,eO,YK uI (show s<1024 by omega) (show d<1024 by omega),qA,OD]
    rw [aCW]
    have finish:∀(b':Nat) (g6:ae),b'<2^n→jh bs js n d (Dl d (seen++[s])) b'→EX g5 g6→L2 [U b'] g6:=fun b' g6 kI axu x6=>
     iA (b',seen++[s],g6) ⟨kI,axq,axu,nv.trans x6,x6.get Qy⟩ awY
    by_cases c1:s &&& d=d
    rotate_left
    ·rw [aU c1]
     simp only [Bool.not_false,gr]
     rw [alK]
     simp only [ef,ah,dS,true_and]
     refine finish bc g5 zi (xM.congr ?_) (EX.refl _)
     rintro x ⟨s',dX,c3,c4⟩
     rcases mem_append.1 dX with dX | dX
     ·exact ⟨s',dX,c3,c4⟩
     ·have:s'=s:=by simpa using dX
      subst this;exact absurd c3.1 c1
    rw [aZ c1]
    simp only [Bool.not_true,eQ,jw,ah,OD]
    rw [alK]
    by_cases c2:s=d
    ·rw [aZ c2]
     simp only [dU,ah,dS,true_and]
     refine finish bc g5 zi (xM.congr ?_) (EX.refl _)
     rintro x ⟨s',dX,c3,c4⟩
     rcases mem_append.1 dX with dX | dX
     ·exact ⟨s',dX,c3,c4⟩
     ·have:s'=s:=by simpa using dX
      subst this;exact absurd c2 c3.2
    rw [aU c2]
    have hR:=alZ axt axp c1 c2
    simp only [dU,ah,dR,YL uI (show s<1024 by omega) (show d<1024 by omega)]
    generalize Jf:od s d=m at hR⊢
    have Ew:=hR.lt
    have I2:∀x,Dl d (seen++[s]) x→Dl d seen x∨x=m:=by
     rintro x ⟨s',dX,c3,c4⟩
     rcases mem_append.1 dX with dX | dX
     ·exact .inl ⟨s',dX,c3,c4⟩
     ·have:s'=s:=by simpa using dX
      subst this;exact .inr (by rw [c4,Jf])
    have Jn:PL g5 p js bs:=hp.mono (nt.trans nv)
    refine WU Jn nM (by omega) (by rw [hn];exact Ew) fun g6 x6=>?_
    refine WO (Jn.mono x6) nM (by omega) (by rw [hn];exact zi) fun g7 x7=>?_
    rw [amx,amt]
    have bA:=agi (amJ nM m) (afy nM bc)
    have bB:=agi (amJ nM bc) (afy nM m)
    have eP:=x6.trans x7
    simp only [vg,ah,wrap64 (show -9223372036854775808≤wS js m*lS js bc by omega) (show wS js m*lS js bc<9223372036854775808 by omega)]
    refine WU (Jn.mono eP) nM (by omega) (by rw [hn];exact zi) fun g8 x8=>?_
    refine WO (Jn.mono (eP.trans x8)) nM (by omega) (by rw [hn];exact Ew) fun g9 x9=>?_
    rw [amx,amt]
    have fG:=(eP.trans x8).trans x9
    have ez:decide (((bc:Nat):Int)=0)=decide (bc=0):=by rw [decide_eq_decide];omega
    simp only [vg,ah,wrap64 (show -9223372036854775808≤wS js bc*lS js m by omega) (show wS js bc*lS js m<9223372036854775808 by omega),jw,ez]
    rw [aCX]
    by_cases b0:bc=0
    ·rw [aZ b0]
     simp only [gr]
     rw [alL]
     simp only [ef,ah,dS,true_and]
     exact finish m g9 Ew ((xM.take P sQ hR (.inl b0)).congr I2) fG
    rw [aU b0]
    simp only [eQ,fS,ah]
    rw [alL]
    by_cases c3:wS js bc*lS js m<wS js m*lS js bc
    ·rw [aZ c3]
     simp only [dU,ah,dS,true_and]
     exact finish m g9 Ew ((xM.take P sQ hR (.inr c3)).congr I2) fG
    rw [aU c3]
    simp only [dU,ah,dR,jw]
    by_cases c4:wS js bc*lS js m=wS js m*lS js bc
    ·rw [aZ c4.symm]
     simp only [dS,orK uI (show bc<1024 by omega) (show m<1024 by omega),ah,true_and]
     exact finish _ g9 (Nat.or_lt_two_pow zi Ew) ((xM.join P sQ hR b0 c4).congr I2) fG
    ·rw [aU (fun h=>c4 h.symm)]
     simp only [dR,true_and]
     exact finish bc g9 zi ((xM.pass P sQ hR b0 (by omega)).congr I2) fG
  ·have QS:d=cK n:=by simpa using heq
   rw [aCZ]
   have e:=mh.uniq (RD [] QS) iI
   rw [List.append_nil] at e
   subst e
   have bk:out≠[]:=by
    rintro rfl
    have h0:(0:Nat)=cK n:=iI
    omega
   refine ⟨nt,?_⟩
   rcases own with ⟨_,h2⟩ | ⟨i,i1,i2,i3⟩
   ·exact absurd (by simpa using h2) bk
   ·exact ⟨i,by omega,i3,by rw [i2,length_map]⟩
end
section
def ah4 (h:ae) (i:Nat):Bool:=
 match aQ h i with
 | some [.slice (some ⟨a,0,some _⟩) 2 2,.slice (some ⟨b,0,some _⟩) 2 2]=>
  (match aQ h a with | some xs=>yh xs [I 3,I 1,I 1,I 1] | none=>false)&&(match aQ h b with | some ys=>yh ys [U 0,U 1] | none=>false)
 | _=>false
noncomputable def rj:kX:=fun t args h=>
 match t with
 | .func 73=>
  match args with
  | [.pointer (some ⟨i,0,none⟩)]=>if ah4 h i=true then some (sl 131 h.length 0 1,h++[.arr 131 [U 3]]) else none
  | _=>none
 | _=>none
theorem aEB:mh [0,1] [(3,1),(1,1)] 2 0 [3]:=by
 have YI:∀x,x<2^2→x=0∨x=1∨x=2∨x=3:=by intro x hx;omega
 have e1:wS [(3,1),(1,1)] 1=1∧lS [(3,1),(1,1)] 1=3:=by decide
 have e3:wS [(3,1),(1,1)] 3=2∧lS [(3,1),(1,1)] 3=4:=by decide
 refine ⟨⟨⟨⟨by decide,by decide,by decide,by decide⟩,fun x hx=>?_⟩,fun m hm=>?_⟩,by show (0 ||| 3)=cK 2;decide⟩
 ·rcases YI x hx.lt with rfl | rfl | rfl | rfl
  ·exact absurd rfl hx.ne
  ·rw [e1.1,e1.2,e3.1,e3.2];decide
  ·have:=hx.cl
   revert this
   decide
  ·exact Int.le_refl _
 ·rcases YI m hm.1.lt with rfl | rfl | rfl | rfl <;> decide
theorem azX:sG prog rj:=by
 constructor
 ·intro F args h v h' he
  simp only [rj] at he
  split at he
  ·rename_i hF
   injection hF with hF
   subst hF
   split at he
   ·rename_i i
    split at he
    ·rename_i aH
     simp only [Option.some.injEq,Prod.mk.injEq] at he
     obtain ⟨rfl,rfl⟩:=he
     unfold ah4 at aH
     split at aH
     ·rename_i hc
      rename_i a ea b eb
      rw [and_eq_true] at aH
      obtain ⟨ha,hb⟩:=aH
      split at ha
      ·rename_i xs hx
       split at hb
       ·rename_i ys hy
        have bS:=CP ha
        have qU:=CP hb
        subst bS qU
        have m9:PL h (pt i 0) [(3,1),(1,1)] [0,1]:=by
         refine ⟨i,_,_,rfl,hc,?_,?_⟩
         ·exact PS.sl (e:=ea) (i:=a) (ps:=[(3,1),(1,1)]) hx
         ·exact NS.sl (e:=eb) (i:=b) (k:=.u16) (ns:=[0,1]) (.inr hy) (by decide)
        have rO:=C73 (os:=[3]) (n:=2) (K:=fun v aT=>v=sl 131 h.length 0 1∧aT=h++[.arr 131 [U 3]]) m9 rfl (by decide) (by decide)
         (by intro j hj;rcases mem_cons.1 hj with rfl | hj;decide;rcases mem_cons.1 hj with rfl | hj;decide;simp at hj) rfl (by intro b hb;rcases mem_cons.1 hb with rfl | hb;decide;rcases mem_cons.1 hb with rfl | hb;decide;simp at hb) aEB ⟨rfl,rfl⟩
        rw [uY] at rO
        obtain ⟨v,h',QK,rfl,rfl⟩:=rO
        exact QK
       ·cases hb
      ·cases ha
     ·cases aH
    ·cases he
   ·cases he
  ·cases he
 ·intro i args h v h' he
  simp only [rj] at he
  cases he
end
end Go.Proofs.YtelmdbpaoifmoaaGreat
namespace Go.Sim
section
def AD (f:Nat→Option Nat) (v:Value):Option Value:=
 match v with
 | .pointer (some ⟨i,o,none⟩)=>match f i with | some j=>some (.pointer (some ⟨j,o,none⟩)) | none=>none
 | .slice (some ⟨i,o,some e⟩) n c=>match f i with | some j=>some (.slice (some ⟨j,o,some e⟩) n c) | none=>none
 | v=>match fN v with | true=>some v | false=>none
def wF (f:Nat→Option Nat):List Value→Option (List Value)
 | []=>some []
 | v::vs=>match AD f v with
  | some u=>match wF f vs with | some us=>some (u::us) | none=>none
  | none=>none
def KW (f:Nat→Option Nat) (v:Value):Option Value:=
 match v with
 | .agg xs=>match wF f xs.toList with | some ys=>some (.agg ys.toArray) | none=>none
 | v=>AD f v
def AB (f:Nat→Option Nat):List Value→Option (List Value)
 | []=>some []
 | v::vs=>match KW f v with
  | some u=>match AB f vs with | some us=>some (u::us) | none=>none
  | none=>none
def K0 (f:Nat→Option Nat) (v:Value):Option Value:=
 match v with
 | .tuple xs=>match AB f xs.toList with | some ys=>some (.tuple ys.toArray) | none=>none
 | v=>KW f v
def wG (f:Nat→Option Nat) (o:aq):Option aq:=
 match o with
 | .arr e xs=>match wF f xs with | some ys=>some (.arr e ys) | none=>none
 | .ro e xs=>match wF f xs with | some ys=>some (.ro e ys) | none=>none
 | _=>none
section
variable {f : Nat → Option Nat} {qu nw : aL} (hf : ∀ i k, f i = some k → qu i = nw k)
include hf
theorem KX {v u v':Value} (h:AD f v=some u):ax qu v v'↔ax nw u v':=by
 unfold AD at h
 split at h
 ·split at h
  ·rename_i i o j hj
   injection h with h;subst h
   have e:=hf _ _ hj
   constructor
   ·intro q;cases q with | ptr hr=>exact .ptr (by rw [←e];exact hr)
   ·intro q;cases q with | ptr hr=>exact .ptr (by rw [e];exact hr)
  ·cases h
 ·split at h
  ·rename_i i o el n c j hj
   injection h with h;subst h
   have e:=hf _ _ hj
   constructor
   ·intro q;cases q with | slice hr a b c d=>exact .slice (by rw [←e];exact hr) a b c d
   ·intro q;cases q with | slice hr a b c d=>exact .slice (by rw [e];exact hr) a b c d
  ·cases h
 ·split at h
  ·rename_i hs
   injection h with h;subst h
   exact ⟨fun q=>fN.rel hs q,fun q=>fN.rel hs q⟩
  ·cases h
omit hf in
theorem U8 {v u:Value} (h:AD f v=some u):gA v=gA u:=by
 unfold AD at h
 split at h
 ·split at h
  ·injection h with h;subst h;rfl
  ·cases h
 ·split at h
  ·injection h with h;subst h;rfl
  ·cases h
 ·split at h
  ·injection h with h;subst h;rfl
  ·cases h
omit hf in
theorem KZ:∀{xs ys:List Value},wF f xs=some ys→xs.length=ys.length∧∀(k:Nat) (x y:Value),xs[k]?=some x→ys[k]?=some y→AD f x=some y
 | [],ys,h=>by
  simp only [wF,Option.some.injEq] at h
  subst h
  exact ⟨rfl,fun k x y h _=>by simp at h⟩
 | x::xs,ys,h=>by
  simp only [wF] at h
  split at h
  ·rename_i u hu
   split at h
   ·rename_i us B4
    injection h with h;subst h
    obtain ⟨h1,h2⟩:=KZ B4
    refine ⟨by simp [h1],fun k a b ha hb=>?_⟩
    cases k with
    | zero=>simp at ha hb;rw [←ha,←hb];exact hu
    | succ k=>exact h2 k a b (by simpa using ha) (by simpa using hb)
   ·cases h
  ·cases h
theorem KY {xs ys:List Value} (h:wF f xs=some ys) {c:Array Value} {sh:Nat}:fY qu c sh xs↔fY nw c sh ys:=by
 obtain ⟨hl,hg⟩:=KZ h
 constructor
 ·intro q j y hy
  have hj:j<xs.length:=by rw [hl];exact (bD hy).1
  have hx:xs[j]?=some xs[j]:=getElem?_eq_getElem hj
  obtain ⟨q1,z,q2,q3⟩:=q j _ hx
  have r:=hg j _ _ hx hy
  exact ⟨by rw [←U8 r];exact q1,z,q2,(KX hf r).1 q3⟩
 ·intro q j x hx
  have hj:j<ys.length:=by rw [←hl];exact (bD hx).1
  have hy:ys[j]?=some ys[j]:=getElem?_eq_getElem hj
  obtain ⟨q1,z,q2,q3⟩:=q j _ hy
  have r:=hg j _ _ hx hy
  exact ⟨by rw [U8 r];exact q1,z,q2,(KX hf r).2 q3⟩
theorem U9 {o u:aq} {w:World} {r:RI} (h:wG f o=some u):lE qu w r o↔lE nw w r u:=by
 unfold wG at h
 split at h
 ·split at h
  ·rename_i p6
   injection h with h;subst h
   constructor
   ·rintro ⟨a,b,c,d,e,g⟩;exact ⟨a,b,c,d,e,(KY hf p6).1 g⟩
   ·rintro ⟨a,b,c,d,e,g⟩;exact ⟨a,b,c,d,e,(KY hf p6).2 g⟩
  ·cases h
 ·split at h
  ·rename_i p6
   injection h with h;subst h
   constructor
   ·rintro ⟨a,c,t,fr,d,e,g⟩;exact ⟨a,c,t,fr,d,e,(KY hf p6).1 g⟩
   ·rintro ⟨a,c,t,fr,d,e,g⟩;exact ⟨a,c,t,fr,d,e,(KY hf p6).2 g⟩
  ·cases h
 ·cases h
theorem aDF {xs ys zs:List Value} (h:wF f xs=some ys) (q:bF qu xs zs):bF nw ys zs:=by
 obtain ⟨hl,hg⟩:=KZ h
 refine bF.J6 (by rw [←hl];exact q.length) fun k y z hy hz=>?_
 have hk:k<xs.length:=by rw [hl];exact (bD hy).1
 have hx:xs[k]?=some xs[k]:=getElem?_eq_getElem hk
 obtain ⟨z',h1,h2⟩:=q.get hx
 rw [hz] at h1;cases h1
 exact (KX hf (hg k _ _ hx hy)).1 h2
theorem al0 {v u v':Value} (h:KW f v=some u) (q:ax qu v v'):ax nw u v':=by
 unfold KW at h
 split at h
 ·rename_i xs
  split at h
  ·rename_i ys zU
   injection h with h;subst h
   cases q with
   | agg hs h1 hr=>
    have vs:=aDF hf zU (bF.tF hs hr)
    obtain ⟨hl,hg⟩:=KZ zU
    refine .agg (by have:=vs.length;simpa using this) (fun y hy=>?_) (by have:=vs.ofList;simpa using this)
    have qU:y∈ys:=by simpa using hy
    obtain ⟨k,hk,e⟩:=List.mem_iff_getElem.1 qU
    have hx:xs.toList[k]?=some (xs.toList[k]'(by omega)):=getElem?_eq_getElem (by omega)
    have r:=hg k _ y hx (by rw [getElem?_eq_getElem hk,e])
    rw [←U8 r]
    exact h1 _ (getElem_mem _)
  ·cases h
 ·exact (KX hf h).1 q
theorem U7:∀{xs ys zs:List Value},AB f xs=some ys→bF qu xs zs→bF nw ys zs
 | [],ys,zs,h,q=>by
  simp only [AB,Option.some.injEq] at h
  subst h
  cases q;exact .nil
 | x::xs,ys,zs,h,q=>by
  simp only [AB] at h
  split at h
  ·rename_i u hu
   split at h
   ·rename_i us B4
    injection h with h;subst h
    cases q with
    | cons a b=>exact .cons (al0 hf hu a) (U7 B4 b)
   ·cases h
  ·cases h
theorem aDH {v u v':Value} (h:K0 f v=some u) (q:ax qu v v'):ax nw u v':=by
 unfold K0 at h
 split at h
 ·rename_i xs
  split at h
  ·rename_i ys zU
   injection h with h;subst h
   cases q with
   | tuple hs hr=>
    have vs:=U7 hf zU (bF.tF hs hr)
    exact .tuple (by have:=vs.length;simpa using this) (by have:=vs.ofList;simpa using this)
  ·cases h
 ·exact al0 hf h q
end
def qj (i:Nat):List Nat→Option Nat
 | []=>none
 | a::l=>match Nat.beq a i with | true=>some 0 | false=>match qj i l with | some k=>some (k+1) | none=>none
theorem KN {i:Nat}:∀{l:List Nat} {k:Nat},qj i l=some k→l[k]?=some i
 | [],k,h=>by cases h
 | a::l,k,h=>by
  simp only [qj] at h
  split at h
  ·rename_i hb
   injection h with h;subst h
   simp [eq_of_beq_eq_true hb]
  ·split at h
   ·rename_i k' b9
    injection h with h;subst h
    simpa using KN b9
   ·cases h
def Bb (ids is:List Nat) (b:Nat) (k:Nat):Option Nat:=
 match Nat.blt k ids.length with
 | true=>ids[k]?
 | false=>match qj k is with | some t=>some (b+t) | none=>none
theorem aDG {f:Nat→Option Nat} {o u:aq} (h:wG f o=some u):(∃e xs ys,o=.arr e xs∧u=.arr e ys)∨∃e xs ys,o=.ro e xs∧u=.ro e ys:=by
 unfold wG at h
 split at h
 ·split at h
  ·injection h with h;subst h;exact .inl ⟨_,_,_,rfl,rfl⟩
  ·cases h
 ·split at h
  ·injection h with h;subst h;exact .inr ⟨_,_,_,rfl,rfl⟩
  ·cases h
 ·cases h
theorem tq {h h2:ae} {i k:Nat} {o u:aq} {f:Nat→Option Nat} (h1:h[i]?=some o) (h3:h2[k]?=some u) (hr:wG f o=some u):(cA h i↔cA h2 k)∧eR h i∧eR h2 k:=by
 unfold cA eR
 rw [h1,h3]
 rcases aDG hr with ⟨e,xs,ys,rfl,rfl⟩ | ⟨e,xs,ys,rfl,rfl⟩ <;> simp
theorem agp {l:List Nat} (h:l.Nodup) {a b i:Nat} (ha:l[a]?=some i) (hb:l[b]?=some i):a=b:=by
 obtain ⟨h1,h2⟩:=bD ha
 obtain ⟨h3,h4⟩:=bD hb
 have hp:=List.pairwise_iff_getElem.1 h
 rcases Nat.lt_trichotomy a b with hl | he | hl
 ·exact absurd (h2.trans h4.symm) (hp a b h1 h3 hl)
 ·exact he
 ·exact absurd (h4.trans h2.symm) (hp b a h3 h1 hl)
theorem axJ {P:Program} {F:FuncId} {yC args:List Value} {h0 oz h os:ae} {v0 v:Value} {ids is:List Nat} (hc:wT P F yC h0 v0 oz)
  (ph:ids.Nodup) (hlen:h0.length=ids.length) (ha:AB (qj · ids) args=some yC)
  (ho:∀(k i:Nat),ids[k]?=some i→∃o o0:aq,h[i]?=some o∧h0[k]?=some o0∧wG (qj · ids) o=some o0)
  (hex:EX h0 oz) (awL:is.Nodup) (awK:∀k∈is,h0.length≤k) (hv:K0 (Bb ids is h.length) v0=some v) (_:os.length=is.length)
  (iI:∀(t k:Nat),is[t]?=some k→∃o0 o:aq,oz[k]?=some o0∧os[t]?=some o∧wG (Bb ids is h.length) o0=some o):wT P F args h v (h++os):=by
 intro ρ args' w hva H
 let sD:aL:=fun k=>(ids[k]?).bind ρ
 have f1:∀i k,qj i ids=some k→ρ i=sD k:=fun i k hk=>by simp [sD,KN hk]
 have ae2:∀k i,ids[k]?=some i→i<h.length:=fun k i hk=>by
  obtain ⟨o,o0,h1,_⟩:=ho k i hk
  exact (bD h1).1
 have r0:∀k r,sD k=some r→∃i,ids[k]?=some i∧ρ i=some r:=by
  intro k r hr
  cases hi:ids[k]? with
  | none=>simp [sD,hi] at hr
  | some i=>exact ⟨i,rfl,by simpa [sD,hi] using hr⟩
 have H0:aY P sD h0 w:=by
  refine ⟨?_,?_,?_⟩
  ·intro k r hr
   obtain ⟨i,hi,jq⟩:=r0 k r hr
   obtain ⟨o,o0,h1,h2,h3⟩:=ho k i hi
   obtain ⟨o',dL,nL⟩:=H.obj i r jq
   rw [h1] at dL;cases dL
   exact ⟨o0,h2,(U9 f1 h3).1 nL⟩
  ·intro a b r s rS qQ nc hm hl
   obtain ⟨i,hi,jq⟩:=r0 a r rS
   obtain ⟨j,hj,hrj⟩:=r0 b s qQ
   obtain ⟨o,o0,h1,h2,h3⟩:=ho a i hi
   obtain ⟨p,p0,q1,q2,q3⟩:=ho b j hj
   have e:=H.inj i j r s jq hrj nc ((tq h1 h2 h3).1.2 hm) (tq q1 q2 q3).2.1
   subst e
   exact agp ph hi hj
  ·intro k r hr
   obtain ⟨i,_,jq⟩:=r0 k r hr
   exact H.aW i r jq
 refine (hc sD args' w (U7 f1 ha hva) H0).mono ?_
 rintro e w' ⟨v',uW,rfl,jI,H',T⟩
 let nw:aL:=fun j=>if j<h.length then ρ j else (is[j-h.length]?).bind uW
 have uG:∀j,j<h.length→nw j=ρ j:=fun j hj=>by simp [nw,hj]
 have r2n:∀t,nw (h.length+t)=(is[t]?).bind uW:=fun t=>by
  show (if h.length+t<h.length then ρ (h.length+t) else (is[h.length+t-h.length]?).bind uW)=_
  rw [if_neg (by omega),Nat.add_sub_cancel_left]
 have Fj:∀k i,ids[k]?=some i→uW k=ρ i:=by
  intro k i hi
  have e0:sD k=ρ i:=by simp [sD,hi]
  cases hr:ρ i with
  | some r=>exact T.ext k r (by rw [e0];exact hr)
  | none=>
   cases qO:uW k with
   | none=>rfl
   | some r=>
    have:=(T.fresh k r qO (by rw [e0];exact hr)).1
    have:k<ids.length:=(bD hi).1
    omega
 have f2:∀k j,Bb ids is h.length k=some j→uW k=nw j:=by
  intro k j hk
  unfold Bb at hk
  split at hk
  ·rw [Fj k j hk,uG j (ae2 k j hk)]
  ·split at hk
   ·rename_i t ht
    injection hk with hk;subst hk
    rw [r2n t,KN ht];rfl
   ·cases hk
 have f3:∀i k,qj i ids=some k→nw i=uW k:=fun i k hk=>by
  have:=KN hk
  rw [Fj k i this,uG i (ae2 k i this)]
 have ah5:∀j,j<h.length→(h++os)[j]?=h[j]?:=fun j hj=>getElem?_append_left hj
 have SR:∀t,(h++os)[h.length+t]?=os[t]?:=fun t=>by rw [List.getElem?_append_right (by omega),Nat.add_sub_cancel_left]
 have hle:ρ.le nw:=fun j r hr=>by rw [uG j (H.lt hr)];exact hr
 have Fa:∀j,j<h.length→(cA (h++os) j↔cA h j)∧(eR (h++os) j↔eR h j):=fun j hj=>by unfold cA eR;rw [ah5 j hj];exact ⟨Iff.rfl,Iff.rfl⟩
 -- uO is new,vf gN own heap has it
 have As:∀j r,nw j=some r→¬j<h.length→∃t k:Nat,j=h.length+t∧is[t]?=some k∧uW k=some r∧h0.length≤k:=by
  intro j r hr hj
  obtain ⟨t,rfl⟩:∃t,j=h.length+t:=⟨j-h.length,by omega⟩
  rw [r2n t] at hr
  cases hk:is[t]? with
  | none=>rw [hk] at hr;cases hr
  | some k=>rw [hk] at hr;exact ⟨t,k,rfl,hk,hr,awK k (List.mem_of_getElem? hk)⟩
 have ax8:∀k,h0.length≤k→sD k=none:=fun k hk=>by
  have:ids[k]?=none:=List.getElem?_eq_none (by omega)
  simp [sD,this]
 have agn:∀(k:Nat) (r:RI),uW k=some r→h0.length≤k→w.heap.size≤r.bz∨∃(k' i:Nat) (s:RI),ids[k']?=some i∧ρ i=some s∧s.bz=r.bz∧cA h i:=by
  intro k r hr hk
  rcases (T.fresh k r hr (ax8 k hk)).2 with h1 | ⟨j,s,h1,h2,h3⟩
  ·exact .inl h1
  ·obtain ⟨i,hi,jq⟩:=r0 j s h1
   obtain ⟨o,o0,q1,q2,q3⟩:=ho j i hi
   exact .inr ⟨j,i,s,hi,jq,h2,(tq q1 q2 q3).1.2 h3⟩
 -- an old azJ and a new one aGC no block,if one of aE1 dw be written
 have apart:∀(a:Nat) (r:RI) (k:Nat) (s:RI),ρ a=some r→uW k=some s→h0.length≤k→r.bz=s.bz→eR h a→(∀k':Nat,ids[k']?≠some a)→False:=by
  intro a r k s rS pj hk he hla hna
  rcases agn k s pj hk with h1 | ⟨k',i,s',h1,h2,h3,h4⟩
  ·have:=Cp H rS hla;omega
  ·have:=H.inj i a s' r h2 rS (by omega) h4 hla
   subst this
   exact hna k' h1
 refine ⟨v',nw,rfl,aDH f2 hv jI,⟨?_,?_,?_⟩,?_⟩
 ·intro j r hr
  by_cases hj:j<h.length
  ·rw [uG j hj] at hr
   obtain ⟨o,Jj,nL⟩:=H.obj j r hr
   refine ⟨o,by rw [ah5 j hj];exact Jj,?_⟩
   by_cases iW:∃k:Nat,ids[k]?=some j
   ·obtain ⟨k,hk⟩:=iW
    obtain ⟨o1,o0,h1,h2,h3⟩:=ho k j hk
    rw [Jj] at h1;cases h1
    obtain ⟨o',dL,Rs⟩:=H'.obj k r (by rw [Fj k j hk];exact hr)
    rw [hex.get h2] at dL;cases dL
    exact (U9 f3 h3).2 Rs
   ·by_cases hd:o=.dead
    ·subst hd;trivial
    ·refine nL.mono hle (T.iy _ (Cp H hr ⟨o,Jj,hd⟩) ?_)
     intro k s hk hb hm
     obtain ⟨i,hi,jq⟩:=r0 k s hk
     obtain ⟨o1,o0,q1,q2,q3⟩:=ho k i hi
     have:=H.inj i j s r jq hr hb ((tq q1 q2 q3).1.2 hm) ⟨o,Jj,hd⟩
     subst this
     exact iW ⟨k,hi⟩
  ·obtain ⟨t,k,rfl,hk,pj,gv⟩:=As j r hr hj
   obtain ⟨o0,o,h1,h2,h3⟩:=iI t k hk
   obtain ⟨o',dL,Rs⟩:=H'.obj k r pj
   rw [h1] at dL;cases dL
   exact ⟨o,by rw [SR t];exact h2,(U9 f2 h3).1 Rs⟩
 ·intro a b r s rS qQ nc hm hl
  by_cases By:a<h.length <;> by_cases BC:b<h.length
  ·rw [uG a By] at rS
   rw [uG b BC] at qQ
   exact H.inj a b r s rS qQ nc ((Fa a By).1.1 hm) ((Fa b BC).2.1 hl)
  ·exfalso
   rw [uG a By] at rS
   obtain ⟨t,k,rfl,hk,pj,gv⟩:=As b s qQ BC
   have hma:=(Fa a By).1.1 hm
   by_cases iW:∃k':Nat,ids[k']?=some a
   ·obtain ⟨k',b9⟩:=iW
    obtain ⟨o,o0,q1,q2,q3⟩:=ho k' a b9
    have m1:cA oz k':=by
     have:=(tq q1 (hex.get q2) q3).1.1 hma
     exact this
    obtain ⟨p0,p,u1,u2,u3⟩:=iI t k hk
    have:=H'.inj k' k r s (by rw [Fj k' a b9];exact rS) pj nc m1 (tq u1 u2 u3).2.1
    have:k'<ids.length:=(bD b9).1
    omega
   ·exact apart a r k s rS pj gv nc hma.live fun k' b9=>iW ⟨k',b9⟩
  ·exfalso
   rw [uG b BC] at qQ
   obtain ⟨t,k,rfl,hk,pj,gv⟩:=As a r rS By
   have pY:=(Fa b BC).2.1 hl
   obtain ⟨p0,p,u1,u2,u3⟩:=iI t k hk
   have m0:cA oz k:=(tq u1 (show (h++os)[h.length+t]?=some p by rw [SR t];exact u2) u3).1.2 hm
   by_cases iW:∃k':Nat,ids[k']?=some b
   ·obtain ⟨k',b9⟩:=iW
    obtain ⟨o,o0,q1,q2,q3⟩:=ho k' b b9
    have:=H'.inj k k' r s pj (by rw [Fj k' b b9];exact qQ) nc m0 (tq q1 (hex.get q2) q3).2.2
    have:k'<ids.length:=(bD b9).1
    omega
   ·exact apart b s k r qQ pj gv nc.symm pY fun k' b9=>iW ⟨k',b9⟩
  ·obtain ⟨t,k,rfl,hk,pj,gv⟩:=As a r rS By
   obtain ⟨t',k',rfl,b9,axj,aGc⟩:=As b s qQ BC
   obtain ⟨p0,p,u1,u2,u3⟩:=iI t k hk
   obtain ⟨p0',p',x1,x2,x3⟩:=iI t' k' b9
   have m0:cA oz k:=(tq u1 (show (h++os)[h.length+t]?=some p by rw [SR t];exact u2) u3).1.2 hm
   have:=H'.inj k k' r s pj axj nc m0 (tq x1 x2 x3).2.1
   subst this
   rw [agp awL hk b9]
 ·intro j r hr
  by_cases hj:j<h.length
  ·rw [uG j hj] at hr;exact H.aW j r hr
  ·obtain ⟨t,k,rfl,hk,pj,gv⟩:=As j r hr hj
   exact H'.aW k r pj
 ·exact {
   ext:=hle
   len:=by simp
   jG:=fun k r hr=>H.lt hr
   kinds:=fun k hk hm=>(Fa k hk).1.1 hm
   fresh:=by
    intro j r hr hn
    by_cases hj:j<h.length
    ·rw [uG j hj,hn] at hr;cases hr
    ·obtain ⟨t,k,rfl,hk,pj,gv⟩:=As j r hr hj
     refine ⟨by omega,?_⟩
     rcases agn k r pj gv with h1 | ⟨k',i,s,h1,h2,h3,h4⟩
     ·exact .inl h1
     ·exact .inr ⟨i,s,h2,h3,h4⟩
   iP:=T.iP
   iy:=by
    intro b hb dC
    refine T.iy b hb ?_
    intro k s hk vX hm
    obtain ⟨i,hi,jq⟩:=r0 k s hk
    obtain ⟨o,o0,q1,q2,q3⟩:=ho k i hi
    exact dC i s jq vX ((tq q1 q2 q3).1.2 hm)
   os:=T.os
   tape:=T.tape
   output:=T.output }
end
section
section
variable {β : Type}
def sM (n:Nat) (k:Nat→β):β:=match n with | 0=>k 0 | m+1=>k (m+1)
theorem DY (n:Nat) (k:Nat→β):sM n k=k n:=by cases n <;> rfl
def Qb (n:Int) (k:Int→β):β:=match n with | .ofNat m=>sM m fun m=>k (.ofNat m) | .negSucc m=>sM m fun m=>k (.negSucc m)
theorem avP (n:Int) (k:Int→β):Qb n k=k n:=by cases n <;> simp [Qb,DY]
def IK (v:Value) (k:Value→β):β:=
 match v with
 | .int kd n=>Qb n fun n=>k (.int kd n)
 | .bool b=>match b with | true=>k (.bool true) | false=>k (.bool false)
 | .pointer (some ⟨i,o,none⟩)=>sM i fun i=>sM o fun o=>k (.pointer (some ⟨i,o,none⟩))
 | .slice (some ⟨i,o,some e⟩) n c=>sM i fun i=>sM o fun o=>sM n fun n=>sM c fun c=>k (.slice (some ⟨i,o,some e⟩) n c)
 | v=>k v
theorem acZ (v:Value) (k:Value→β):IK v k=k v:=by
 unfold IK
 split
 ·rw [avP]
 ·rename_i b;cases b <;> rfl
 ·simp only [DY]
 ·simp only [DY]
 ·rfl
def Bo (xs:List Value) (k:List Value→β):β:=match xs with | []=>k [] | x::xs=>IK x fun x=>Bo xs fun xs=>k (x::xs)
theorem Qa:∀(xs:List Value) (k:List Value→β),Bo xs k=k xs
 | [],_=>rfl
 | x::xs,k=>by simp only [Bo,acZ];exact Qa xs _
def IJ (v:Value) (k:Value→β):β:=match v with | .agg xs=>Bo xs.toList fun ys=>k (.agg ys.toArray) | v=>IK v k
theorem acY (v:Value) (k:Value→β):IJ v k=k v:=by
 unfold IJ
 split
 ·rw [Qa]
 ·exact acZ _ _
def DX (xs:List Value) (k:List Value→β):β:=match xs with | []=>k [] | x::xs=>IJ x fun x=>DX xs fun xs=>k (x::xs)
theorem P9:∀(xs:List Value) (k:List Value→β),DX xs k=k xs
 | [],_=>rfl
 | x::xs,k=>by simp only [DX,acY];exact P9 xs _
def Qc (v:Value) (k:Value→β):β:=match v with | .tuple xs=>DX xs.toList fun ys=>k (.tuple ys.toArray) | v=>IJ v k
theorem avQ (v:Value) (k:Value→β):Qc v k=k v:=by
 unfold Qc
 split
 ·rw [P9]
 ·exact acY _ _
def yR (h:ae) (k:ae→β):β:=
 match h with
 | []=>k []
 | o::r=>match o with
  | .arr e xs=>Bo xs fun xs=>yR r fun r=>k (.arr e xs::r)
  | .ro e xs=>Bo xs fun xs=>yR r fun r=>k (.ro e xs::r)
  | o=>yR r fun r=>k (o::r)
theorem ac0:∀(h:ae) (k:ae→β),yR h k=k h
 | [],_=>rfl
 | o::r,k=>by
  unfold yR
  cases o <;> simp only [Qa] <;> exact ac0 r _
def DZ (xs:List Nat) (k:List Nat→β):β:=match xs with | []=>k [] | x::xs=>sM x fun x=>DZ xs fun xs=>k (x::xs)
theorem ac1:∀(xs:List Nat) (k:List Nat→β),DZ xs k=k xs
 | [],_=>rfl
 | x::xs,k=>by simp only [DZ,DY];exact ac1 xs _
end
def axM:Value→List Nat
 | .pointer (some ⟨i,_,none⟩)=>[i]
 | .slice (some ⟨i,_,some _⟩) _ _=>[i]
 | _=>[]
def B9:List Value→List Nat→List Nat
 | [],r=>r
 | x::xs,r=>match axM x with | i::_=>i::B9 xs r | []=>B9 xs r
def ae4 (v:Value) (r:List Nat):List Nat:=match v with | .agg xs=>B9 xs.toList r | v=>B9 [v] r
def R8:List Value→List Nat→List Nat
 | [],r=>r
 | x::xs,r=>ae4 x (R8 xs r)
def axN (v:Value):List Nat:=match v with | .tuple xs=>R8 xs.toList [] | v=>ae4 v []
def reach:Nat→ae→List Nat→List Nat→List Nat
 | 0,_,_,acc=>acc
 | _+1,_,[],acc=>acc
 | n+1,h,i::r,acc=>
  match qj i acc with
  | some _=>reach n h r acc
  | none=>match h[i]? with
   | some (.arr _ xs)=>reach n h (B9 xs r) (acc++[i])
   | some (.ro _ xs)=>reach n h (B9 xs r) (acc++[i])
   | _=>reach n h r (acc++[i])
def Fe:List Nat→Bool
 | []=>true
 | a::l=>match qj a l with | some _=>false | none=>Fe l
theorem akU {i:Nat}:∀{l:List Nat},qj i l=none→i∉l
 | [],_=>by simp
 | a::l,h=>by
  simp only [qj] at h
  split at h
  ·cases h
  ·rename_i hb
   split at h
   ·cases h
   ·rename_i hn
    intro hm
    rcases mem_cons.1 hm with rfl | hm
    ·simp at hb
    ·exact akU hn hm
theorem SW:∀{l:List Nat},Fe l=true→l.Nodup
 | [],_=>.nil
 | a::l,h=>by
  simp only [Fe] at h
  split at h
  ·cases h
  ·rename_i hn
   exact List.nodup_cons.2 ⟨akU hn,SW h⟩
def Cs (f:Nat→Option Nat) (h:ae):List Nat→Option ae
 | []=>some []
 | i::r=>match h[i]? with
  | some o=>match wG f o with
   | some u=>match Cs f h r with | some us=>some (u::us) | none=>none
   | none=>none
  | none=>none
theorem Tc {f:Nat→Option Nat} {h:ae}:∀{l:List Nat} {us:ae},Cs f h l=some us→us.length=l.length∧∀(k i:Nat),l[k]?=some i→∃o u:aq,h[i]?=some o∧us[k]?=some u∧wG f o=some u
 | [],us,e=>by
  simp only [Cs,Option.some.injEq] at e
  subst e
  exact ⟨rfl,fun k i hk=>by simp at hk⟩
 | i::r,us,e=>by
  simp only [Cs] at e
  split at e
  ·rename_i o ho
   split at e
   ·rename_i u hu
    split at e
    ·rename_i Lx B4
     injection e with e;subst e
     obtain ⟨h1,h2⟩:=Tc B4
     refine ⟨by simp [h1],fun k j hk=>?_⟩
     cases k with
     | zero=>
      have:i=j:=by simpa using hk
      subst this
      exact ⟨o,u,ho,rfl,hu⟩
     | succ k=>simpa using h2 k j (by simpa using hk)
    ·cases e
   ·cases e
  ·cases e
def S4 (a b:aq):Bool:=
 match a,b with
 | .arr e xs,.arr e' xs'=>Nat.beq e e'&&yh xs xs'
 | .ro e xs,.ro e' xs'=>Nat.beq e e'&&yh xs xs'
 | _,_=>false
theorem azI {a b:aq} (h:S4 a b=true):a=b:=by
 unfold S4 at h
 split at h
 ·rw [and_eq_true] at h
  rw [eq_of_beq_eq_true h.1,CP h.2]
 ·rw [and_eq_true] at h
  rw [eq_of_beq_eq_true h.1,CP h.2]
 ·cases h
def La:ae→ae→Bool
 | [],_=>true
 | a::r,b::s=>S4 a b&&La r s
 | _::_,[]=>false
theorem amf:∀{h g:ae},La h g=true→EX h g
 | [],g,_=>⟨zero_le _,fun i hi=>by simp at hi⟩
 | a::r,b::s,e=>by
  simp only [La,and_eq_true] at e
  obtain ⟨h1,h2⟩:=amf e.2
  have:=azI e.1
  subst this
  refine ⟨by simpa using h1,fun i hi=>?_⟩
  cases i with
  | zero=>rfl
  | succ i=>simpa using h2 i (by simpa using hi)
 | _::_,[],e=>by cases e
def IT (b:Nat):List Nat→Bool
 | []=>true
 | a::l=>Nat.ble b a&&IT b l
theorem adl {b:Nat}:∀{l:List Nat},IT b l=true→∀k∈l,b≤k
 | [],_,k,hk=>by simp at hk
 | a::l,h,k,hk=>by
  simp only [IT,and_eq_true] at h
  rcases mem_cons.1 hk with rfl | hk
  ·exact bL h.1
  ·exact adl h.2 k hk
def Qw (b:Nat):List Nat→List Nat
 | []=>[]
 | a::l=>match Nat.ble b a with | true=>a::Qw b l | false=>Qw b l
noncomputable def Ql (call:kX):kX:=fun t args h=>
 match t with
 | .func F=>
  DZ (reach 400 h (R8 args []) []) fun ids=>
  match AB (qj · ids) args,Cs (qj · ids) h ids with
  | some yC,some h0=>
   DX yC fun yC=>yR h0 fun h0=>
   match call (.func F) yC h0 with
   | some (v0,oz)=>
    match La h0 oz&&Fe ids with
    | true=>
     DZ (Qw h0.length (reach 400 oz (axN v0) [])) fun is=>
     sM h.length fun b=>
     match K0 (Bb ids is b) v0,Cs (Bb ids is b) oz is with
     | some v,some os=>
      match Fe is&&IT h0.length is with
      | true=>Qc v fun v=>yR os fun os=>some (v,h++os)
      | false=>none
     | _,_=>call t args h
    | false=>call t args h
   | none=>none
  | _,_=>call t args h
 | _=>call t args h
theorem av5 {P:Program} {call:kX} (HC:sG P call):sG P (Ql call):=by
 constructor
 ·intro F args h v h' he
  simp only [Ql,ac1,P9,ac0,DY,avQ] at he
  split at he
  ·rename_i yC h0 ha ho
   split at he
   ·rename_i v0 oz rO
    split at he
    ·rename_i zP
     rw [and_eq_true] at zP
     split at he
     ·rename_i u os hu iI
      split at he
      ·rename_i sU
       rw [and_eq_true] at sU
       simp only [Option.some.injEq,Prod.mk.injEq] at he
       obtain ⟨rfl,rfl⟩:=he
       obtain ⟨a1,a2⟩:=Tc ho
       obtain ⟨b1,b2⟩:=Tc iI
       exact axJ (HC.fn _ _ _ _ _ rO) (SW zP.2) a1 ha a2 (amf zP.1) (SW sU.1) (adl sU.2) hu b1 b2
      ·cases he
     ·exact HC.fn _ _ _ _ _ he
    ·exact HC.fn _ _ _ _ _ he
   ·cases he
  ·exact HC.fn _ _ _ _ _ he
 ·intro i args h v h' he
  exact HC.yi _ _ _ _ _ he
noncomputable def Bn (P:Program) (H:FuncId→Hints) (lf:Nat) (rj:kX):Nat→kX
 | 0=>fun _ _ _=>none
 | n+1=>fun t args h=>
  match rj t args h with
  | some r=>some r
  | none=>Ql (II P H lf (Bn P H lf rj n)) t args h
theorem acX {P:Program} {H:FuncId→Hints} {lf:Nat} {rj:kX} (HO:sG P rj):∀n,sG P (Bn P H lf rj n)
 | 0=>by constructor <;> (intro _ _ _ _ _ h;cases h)
 | n+1=>by
  have HS:=av5 (avJ (H:=H) (lf:=lf) (acX (H:=H) (lf:=lf) HO n))
  constructor
  ·intro F args h v h' he
   simp only [Bn] at he
   split at he
   ·rename_i r hr;cases he;exact HO.fn _ _ _ _ _ hr
   ·exact HS.fn _ _ _ _ _ he
  ·intro i args h v h' he
   simp only [Bn] at he
   split at he
   ·rename_i r hr;cases he;exact HO.yi _ _ _ _ _ hr
   ·exact HS.yi _ _ _ _ _ he
theorem avI {P:Program} (H:FuncId→Hints) (lf n:Nat) {rj:kX} (HO:sG P rj) {F:FuncId} {args:List Value} {v:Value} (h:(Bn P H lf rj n (.func F) args []).map Prod.fst=some v):∃h',wT P F args [] v h':=by
 simp only [Option.map_eq_some_iff] at h
 obtain ⟨⟨u,h'⟩,h1,h2⟩:=h
 simp at h2
 subst h2
 exact ⟨h',(acX HO n).fn _ _ _ _ _ h1⟩
end
end Go.Sim
namespace Go.Proofs.YtelmdbpaoifmoaaGreat
open Go.Sim
section
set_option maxHeartbeats 0 in
theorem ay3:(Bn prog evH 1000 rj 30 (.func 14) [] []).map Prod.fst=some (.bool true):=by kernel_rfl
theorem C14 {h:ae} {K:Value→ae→Prop} (hk:K (.bool true) h):ak prog 14 [] h K:=by
 obtain ⟨h',hc⟩:=avI evH 1000 30 azX ay3
 exact auc (oW.fN rfl) hc rfl hk
end
section
open Go.Sim Go.ChangeShapes Go.WideShapes Go.ChangeAt Go.RowKit
set_option maxRecDepth 100000
theorem Tryz.own:ownKnob prog.godebug=none:=by kernel_rfl
theorem Tryz.laidOut:laidOutB prog=true:=by kernel_rfl
theorem Bg:prog.cellsOf 5=1:=by kernel_rfl
section
variable {H : Type} {enc : TypeId × Value → H} {W : World} {ρ : aL} {h : ae}
theorem wf_u8 {x:Int} (h:(Lit.int .u8 x).wf=true):0≤x∧x<256:=by
 simp [Lit.wf,IntKind.min,IntKind.max,IntKind.signed,IntKind.bits] at h
 omega
end
end
end Go.Proofs.YtelmdbpaoifmoaaGreat
namespace Go.Sim
section
open Go.ChangeShapes Go.WideShapes Go.ChangeAt Go.RowKit
section
variable {P : Program} {W : World} {ρ : aL} {h : ae} {H : Type} {enc : TypeId × Value → H}
theorem auf {w:World} {a:Addr} {v:Value} (h:w.cell? a=some v):a.spot=none:=by
 unfold World.cell? at h
 split at h
 ·split at h
  ·cases h
  ·rename_i hs
   cases hh:a.spot with
   | none=>rfl
   | some x=>rw [hh] at hs;exact absurd rfl hs
 ·cases h
theorem aE9 {t e:TypeId} (ht:P.underlying t=some (.slice e)) (iJ:P.cellsOf e≠0) {fuel:Nat} {a:Addr} {len cap:Nat} {x:DataW H×List MemPlace}
  (hd:DataW.trod enc P W 0 (fun _=>true) true fuel t [.slice (some a) len cap]=some x):a.spot=none∨(len=0∧cap=0):=by
 rcases DataW.trod_slice ht hd with ⟨h1,_⟩ | ⟨a',aGs,Ii,avv,rest,n,_,h1,_,hb,hl,hm,hlen,zx,zQ,_⟩
 ·simp at h1
 ·simp only [List.cons.injEq,Value.slice.injEq,Option.some.injEq,and_true] at h1
  obtain ⟨rfl,rfl,rfl⟩:=h1
  by_cases hc:cap=0
  ·exact .inr ⟨by omega,hc⟩
  ·left
   obtain ⟨Rv,hr⟩:=zQ rfl
   have kI:∃y,(W.cells? 0 (a.add (0*P.cellsOf e)) (P.cellsOf e)).bind (DataW.trod enc P W 0 (fun _=>true) true n e)=some y:=by
    by_cases bn:0<len
    ·rw [zx 0 bn,getElem?_eq_getElem (by omega)]
     exact ⟨_,rfl⟩
    ·have:=hr (0-len) (by omega)
     rw [show len+(0-len)=0 by omega] at this
     rw [this,getElem?_eq_getElem (by omega)]
     exact ⟨_,rfl⟩
   obtain ⟨y,hy⟩:=kI
   rw [Option.bind_eq_some_iff] at hy
   obtain ⟨cs,h1,_⟩:=hy
   obtain ⟨_,g2,g3⟩:=World.cells?_some h1
   have:=g3 0 (by omega)
   rw [getElem?_eq_getElem (by omega)] at this
   have e1:a.add (0*P.cellsOf e)=a:=by rw [Nat.zero_mul];rfl
   have e2:a.add 0=a:=rfl
   rw [e1,e2] at this
   exact auf this
theorem avw {t e:TypeId} (ht:P.underlying t=some (.slice e)) (iJ:P.cellsOf e≠0)
  (flat:∀n cs y,DataW.trod enc P W 0 (fun _=>true) true n e cs=some y→cs.length=P.cellsOf e∧∀x∈cs,fN x=true)
  {fuel:Nat} {v:Value} {x:DataW H×List MemPlace} (hd:DataW.trod enc P W 0 (fun _=>true) true fuel t [v]=some x) (HR:aY P ρ h W) (kN:qo h):
  ∃(av:aL) (g:ae) (v':Value) (n:Nat) (xs:List Value),ρ.le av∧aY P av (h++g) W∧qo (h++g)∧ax av v' v∧gA v'=true∧
   (((v'=.slice none 0 0∨v'=.slice none 0 1)∧n=0)∨∃i,v'=sl e i 0 n∧(n=0∨aQ (h++g) i=some xs))∧xs.length=n*P.cellsOf e∧(∀y∈xs,fN y=true)∧
   ∀i,i<n→∃m y,DataW.trod enc P W 0 (fun _=>true) true m e ((xs.drop (i*P.cellsOf e)).take (P.cellsOf e))=some y:=by
 by_cases hv:∃a,v=.slice (some a) 0 0∧a.spot≠none
 ·obtain ⟨a,rfl,_⟩:=hv
  exact ⟨ρ,[],.slice none 0 1,0,[],.refl _,by simpa using HR,by simpa using kN,.void a,rfl,.inl ⟨.inr rfl,rfl⟩,by simp,by simp,fun i hi=>by omega⟩
 ·have hs:∀(a:Addr) (len cap:Nat),v=.slice (some a) len cap→a.spot=none:=by
   rintro a len cap rfl
   rcases aE9 ht iJ hd with h1 | ⟨rfl,rfl⟩
   ·exact h1
   ·apply byContradiction
    intro hc
    exact hv ⟨a,rfl,hc⟩
  obtain ⟨av,g,v',n,xs,e1,e2,e3,e4,e5,e6,e7⟩:=avx ht iJ flat hd hs HR kN
  exact ⟨av,g,v',n,xs,e1,e2,e3,e4,e5,e6.imp (fun ⟨a,b⟩=>⟨.inl a,b⟩) id,e7⟩
end
end
end Go.Sim
namespace Go.Proofs.YtelmdbpaoifmoaaGreat
open Go.Sim
section
section
variable {h : ae} {id : Nat}
abbrev hb (h:ae) (id:Nat) (xs:List UInt8):ae:=h.set id (.arr 5 (xs.map cv))
theorem I0 (iH:id<h.length) (xs:List UInt8):(hb h id xs)[id]?=some (.arr 5 (xs.map cv)):=by simp [hb,iH]
theorem adF (iH:id<h.length) {xs:List UInt8} {j:Nat} {c:UInt8} (hj:xs[j]?=some c):af false 1 (hb h id xs) (pt id j)=some (cv c):=by
 simp [af,aQ,I0 iH,cf,hj]
theorem adG (iH:id<h.length) {xs:List UInt8} {j:Nat} (c:UInt8) (hj:j<xs.length):aG 1 (hb h id xs) (pt id j) (cv c)=some (undef,hb h id (xs.set j c)):=by
 rw [oL (I0 iH xs) (by simpa using hj) rfl rfl]
 simp [hb,List.map_set]
end
end
section
variable (P : Program) (K : VK)
noncomputable section
variable (n0 x2 u3 : Value) (h : ae)
def agy:=bC prog 105 [[],[],[],[0,2,3],[]]
@[irreducible] def O2:=bN agy
@[irreducible] def aq6:=O2.r.r.r.l
theorem ayf:agy=some (20,O2,[.cell true 2 2]):=by kernel_rfl
def anQ (_P:Program) (K:VK):ar:=aS [.cell true 2 2] K
def Kj:Prop:=ay (aj P aq6 (anQ P K)) [0,2,3] [n0,x2,u3] h
theorem aAx:Kj P K n0 x2 u3 h=
 (OP (ai .lss n0 (.int .i64 (0))) fun au=>
 OP (c8 .u32 u3) fun aC=>
 OP (ai .shr u3 (.int .u64 (32))) fun bf=>
 OP (c8 .u32 bf) fun bp=>
 OH (cW 177 2 [(.int .u32 (0))] h [(0,1,aC),(1,1,bp)]) fun bY z1=>
 ak P 118 [bY] z1 fun aR z2=>
 ak P 117 [au,aR] z2 fun aP z3=>
 OH (aG 2 z3 x2 aP) fun _ z4=>
 OP (af true 2 z4 x2) fun r0=>
 K r0 z4):=az (by kernel_rfl)
def M8:Prop:=
 OH (aV 105 [(.bool false),(.slice none 0 0)] h) fun x2 z1=>
 OP (c8 .u64 n0) fun x5=>
 OP (ai .lss n0 (.int .i64 (0))) fun x7=>
 aO x7
 (OP (gT .neg x5) fun x9=>
 Kj P K n0 x2 x9 z1)
 (Kj P K n0 x2 x5 z1)
theorem auO:aj P O2 (aS [.cell true 2 2] K) (bw [n0]) h=M8 P K n0 h:=by kernel_rfl
theorem f105 {K:VK} {n0:Value} {h:ae} (H:M8 prog K n0 h):ak prog 105 [n0] h K:=
 bP ayf (bL rfl) ((auO prog K n0 h).mpr H)
end
noncomputable section
variable (a0 b1 : Value) (h : ae)
def agA:=bC prog 107 [[],[]]
@[irreducible] def Zf:=bN agA
theorem ayh:agA=some (16,Zf,[.cell true 2 4]):=by kernel_rfl
def Na:Prop:=
 OH (bm 105 h a0) fun a2 z1=>
 OH (bm 105 z1 b1) fun b3 z2=>
 OH (aV 105 [(.bool false),(.slice none 0 0)] z2) fun x4 z3=>
 OP (aM 0 a2) fun x5=>
 OP (af false 1 z3 x5) fun x6=>
 (True)∧
 OP (aM 0 b3) fun x7=>
 OP (af false 1 z3 x7) fun x8=>
 (True)∧
 OP (um true x6 x8) fun x9=>
 OP (aM 1 a2) fun aE=>
 OP (af false 1 z3 aE) fun au=>
 (True)∧
 OP (aM 1 b3) fun aA=>
 OP (af false 1 z3 aA) fun aC=>
 (True)∧
 ak P 122 [au,aC] z3 fun aI z4=>
 (af false 1 z4 x5=some x6∧af false 1 z4 x7=some x8∧True)∧
 ak P 117 [x9,aI] z4 fun bf z5=>
 (True)∧
 OH (aG 2 z5 x4 bf) fun _ z6=>
 (True)∧
 OP (af true 2 z6 x4) fun r0=>
 K r0 z6
theorem auQ:aj P Zf (aS [.cell true 2 4] K) (bw [a0,b1]) h=Na P K a0 b1 h:=by kernel_rfl
theorem f107 {K:VK} {a0 b1:Value} {h:ae} (H:Na prog K a0 b1 h):ak prog 107 [a0,b1] h K:=
 bP ayh (bL rfl) ((auQ prog K a0 b1 h).mpr H)
end
noncomputable section
variable (a0 : Value) (h : ae)
def agC:=bC prog 109 [[],[],[],[],[],[],[]]
@[irreducible] def Zn:=bN agC
theorem ayj:agC=some (11,Zn,[.tmp 2]):=by kernel_rfl
def Nc (_:Program) (K:VK) (a0:Value) (h:ae):Prop:=
 OH (bm 105 h a0) fun a1 z1=>
 OP (aM 1 a1) fun x4=>
 OP (af false 1 z1 x4) fun x5=>
 OP (bj x5) fun x6=>
 OP (ai .eql x6 (.int .i64 (0))) fun x7=>
 aO x7
 (K (.int .i64 (0)) z1)
 (OP (aM 0 a1) fun x9=>
 OP (af false 1 z1 x9) fun aE=>
 aO aE
 (K (.int .i64 (-1)) z1)
 (K (.int .i64 (1)) z1))
theorem auS:aj P Zn (aS [.tmp 2] K) (bw [a0]) h=Nc P K a0 h:=by kernel_rfl
theorem f109 {K:VK} {a0:Value} {h:ae} (H:Nc prog K a0 h):ak prog 109 [a0] h K:=
 bP ayj (bL rfl) ((auS prog K a0 h).mpr H)
end
noncomputable section
variable (a0 b1 : Value) (h : ae)
def agE:=bC prog 111 [[],[]]
@[irreducible] def ZD:=bN agE
theorem ayl:agE=some (9,ZD,[.tmp 4]):=by kernel_rfl
def Nf:Prop:=
 OH (bm 105 h a0) fun a2 z1=>
 OH (bm 105 z1 b1) fun b3 z2=>
 OP (af true 2 z2 a2) fun x5=>
 OP (af true 2 z2 b3) fun x6=>
 ak P 127 [x5,x6] z2 fun x7 z3=>
 ak P 109 [x7] z3 fun x8 z4=>
 K x8 z4
theorem auU:aj P ZD (aS [.tmp 4] K) (bw [a0,b1]) h=Nf P K a0 b1 h:=by kernel_rfl
theorem f111 {K:VK} {a0 b1:Value} {h:ae} (H:Nf prog K a0 b1 h):ak prog 111 [a0,b1] h K:=
 bP ayl (bL rfl) ((auU prog K a0 b1 h).mpr H)
end
noncomputable section
variable (n0 : Value) (h : ae)
def agF:=bC prog 112 [[],[]]
@[irreducible] def ZE:=bN agF
theorem aym:agF=some (6,ZE,[.cell true 4 2]):=by kernel_rfl
def Ng:Prop:=
 OH (bm 105 h n0) fun n1 z1=>
 OH (aV 107 [(.bool false),(.slice none 0 0),(.bool false),(.slice none 0 0)] z1) fun x2 z2=>
 OP (af true 2 z2 n1) fun x3=>
 (True)∧
 ak P 105 [(.int .i64 (1))] z2 fun x4 z3=>
 (af true 2 z3 n1=some x3∧True)∧
 OP (dh [(.bool false),(.slice none 0 0),(.bool false),(.slice none 0 0)] [(0,2,x3),(2,2,x4)]) fun x5=>
 OH (aG 4 z3 x2 x5) fun _ z4=>
 (True)∧
 OP (af true 4 z4 x2) fun r0=>
 K r0 z4
theorem auV:aj P ZE (aS [.cell true 4 2] K) (bw [n0]) h=Ng P K n0 h:=by kernel_rfl
theorem f112 {K:VK} {n0:Value} {h:ae} (H:Ng prog K n0 h):ak prog 112 [n0] h K:=
 bP aym (bL rfl) ((auV prog K n0 h).mpr H)
end
noncomputable section
variable (a0 b1 : Value) (h : ae)
def agG:=bC prog 113 [[],[],[],[],[],[],[]]
@[irreducible] def ZF:=bN agG
theorem ayn:agG=some (42,ZF,[.cell true 2 4]):=by kernel_rfl
def Nh:Prop:=
 OH (bm 105 h a0) fun a2 z1=>
 OH (bm 105 z1 b1) fun b3 z2=>
 OH (aV 105 [(.bool false),(.slice none 0 0)] z2) fun x4 z3=>
 OP (aM 0 a2) fun x6=>
 OP (af false 1 z3 x6) fun x7=>
 OP (aM 0 b3) fun x8=>
 OP (af false 1 z3 x8) fun x9=>
 OP (um false x7 x9) fun aE=>
 aO aE
 (OP (aM 0 a2) fun au=>
 OP (af false 1 z3 au) fun aA=>
 (True)∧
 OP (aM 1 a2) fun aC=>
 OP (af false 1 z3 aC) fun aI=>
 (True)∧
 OP (aM 1 b3) fun bf=>
 OP (af false 1 z3 bf) fun bp=>
 (True)∧
 ak P 128 [aI,bp] z3 fun bY z4=>
 (af false 1 z4 au=some aA∧True)∧
 ak P 117 [aA,bY] z4 fun aR z5=>
 (True)∧
 OH (aG 2 z5 x4 aR) fun _ z6=>
 (True)∧
 OP (af true 2 z6 x4) fun r0=>
 K r0 z6)
 (OP (aM 1 a2) fun aX=>
 OP (af false 1 z3 aX) fun ba=>
 OP (aM 1 b3) fun bH=>
 OP (af false 1 z3 bH) fun cm=>
 ak P 126 [ba,cm] z3 fun bt z4=>
 OP (ai .geq bt (.int .i64 (0))) fun bu=>
 aO bu
 (OP (aM 0 a2) fun bI=>
 OP (af false 1 z4 bI) fun bE=>
 (True)∧
 OP (aM 1 a2) fun cG=>
 OP (af false 1 z4 cG) fun cL=>
 (True)∧
 OP (aM 1 b3) fun dO=>
 OP (af false 1 z4 dO) fun cg=>
 (True)∧
 ak P 129 [cL,cg] z4 fun cM z5=>
 (af false 1 z5 bI=some bE∧True)∧
 ak P 117 [bE,cM] z5 fun dK z6=>
 (True)∧
 OH (aG 2 z6 x4 dK) fun _ z7=>
 (True)∧
 OP (af true 2 z7 x4) fun r0=>
 K r0 z7)
 (OP (aM 0 b3) fun cj=>
 OP (af false 1 z4 cj) fun dV=>
 (True)∧
 OP (aM 1 b3) fun db=>
 OP (af false 1 z4 db) fun fF=>
 (True)∧
 OP (aM 1 a2) fun dD=>
 OP (af false 1 z4 dD) fun dZ=>
 (True)∧
 ak P 129 [fF,dZ] z4 fun ep z5=>
 (af false 1 z5 cj=some dV∧True)∧
 ak P 117 [dV,ep] z5 fun dW z6=>
 (True)∧
 OH (aG 2 z6 x4 dW) fun _ z7=>
 (True)∧
 OP (af true 2 z7 x4) fun r0=>
 K r0 z7))
theorem auW:aj P ZF (aS [.cell true 2 4] K) (bw [a0,b1]) h=Nh P K a0 b1 h:=by kernel_rfl
theorem f113 {K:VK} {a0 b1:Value} {h:ae} (H:Nh prog K a0 b1 h):ak prog 113 [a0,b1] h K:=
 bP ayn (bL rfl) ((auW prog K a0 b1 h).mpr H)
end
noncomputable section
variable (a0 w1 x6 x7 i8 : Value) (L1 : LQ) (xs : List Value) (h : ae)
def agH:=bC prog 114 [[],[],[],[],[0,1,6],[7,8],[],[],[],[],[6,7],[]]
@[irreducible] def Hc:=bN agH
@[irreducible] def ark:=Hc.r.r.r.l.r.l.l
@[irreducible] def ZG:=Hc.r.r.r.r
@[irreducible] def arj:=ZG.l
theorem ayo:agH=some (44,Hc,[.tmp 4,.tmp 5]):=by kernel_rfl
def Mj (_P:Program) (K:VK):ar:=aS [.tmp 4,.tmp 5] K
def anY:ar:=aF (aj P ZG (Mj P K)) (Mj P K)
def anZ:ar:=bO 0 (anY P K)
def an0:ar:=aF (fun f' aT=>(([0,1,6]:List Nat).map f':List Value)=[a0,w1,x6]∧L1 (([7,8]:List Nat).map f') aT) (anZ P K)
def aiD:Prop:=ay (aj P ark (an0 P K a0 w1 x6 L1)) ([0,1,6]++[7,8]) ([a0,w1,x6]++xs) h
def aiC:Prop:=ay (aj P arj (Mj P K)) [6,7] [x6,x7] h
theorem aAU (a0 w1 x6:Value) (L1:LQ) (x7 i8:Value) (h:ae):aiD P K a0 w1 x6 L1 [x7,i8] h=
 (OP (ai .geq i8 (.int .i64 (0))) fun bY=>
 aO bY
 (OP (ai .shl x7 (.int .u64 (32))) fun ba=>
 OP (a9 1 a0 i8) fun bt=>
 OP (af false 1 h bt) fun bu=>
 OP (c8 .u64 bu) fun bI=>
 OP (ai .or ba bI) fun bE=>
 OP (c8 .u64 w1) fun cM=>
 OP (ai .quo bE cM) fun dK=>
 OP (c8 .u32 dK) fun cj=>
 OP (c8 .u64 w1) fun fF=>
 OP (ai .rem bE fF) fun dD=>
 OP (a9 1 x6 i8) fun dZ=>
 OH (aG 1 h dZ cj) fun _ z1=>
 (True)∧
 OP (ai .sub i8 (.int .i64 (1))) fun aP=>
 ([a0,w1,x6]:List Value)=[a0,w1,x6]∧L1 [dD,aP] z1)
 (aiC P K x6 x7 h)):=az (by kernel_rfl)
theorem aAT:aiC P K x6 x7 h=
 (ak P 118 [x6] h fun dW z1=>
 OP (c8 .u32 x7) fun bV=>
 K (.tuple #[dW,bV]) z1):=az (by kernel_rfl)
def Ni:Prop:=
 OP (bj a0) fun au=>
 OH (nf 177 4 [(.int .u32 (0))] h au au) fun aA z1=>
 OP (bj a0) fun aI=>
 OP (ai .sub aI (.int .i64 (1))) fun bf=>
 cN [(.int .u64 (0)),bf] z1 fun L1 xs hx=>
 aiD P K a0 w1 aA L1 xs hx
theorem auX:aj P Hc (aS [.tmp 4,.tmp 5] K) (bw [a0,w1]) h=Ni P K a0 w1 h:=by kernel_rfl
theorem f114 {K:VK} {a0 w1:Value} {h:ae} (H:Ni prog K a0 w1 h):ak prog 114 [a0,w1] h K:=
 bP ayo (bL rfl) ((auX prog K a0 w1 h).mpr H)
end
noncomputable section
variable (s0 i2 j3 : Value) (L1 : LQ) (xs : List Value) (h : ae)
def agI:=bC prog 115 [[],[0],[2,3],[],[],[]]
@[irreducible] def O5:=bN agI
@[irreducible] def arl:=O5.r.l.l
theorem ayp:agI=some (28,O5,[]):=by kernel_rfl
def an1 (_P:Program) (K:VK):ar:=aS [] K
def an2:ar:=bO 0 (an1 P K)
def an3:ar:=aF (fun f' aT=>(([0]:List Nat).map f':List Value)=[s0]∧L1 (([2,3]:List Nat).map f') aT) (an2 P K)
def aiE:Prop:=ay (aj P arl (an3 P K s0 L1)) ([0]++[2,3]) ([s0]++xs) h
theorem aAV (s0:Value) (L1:LQ) (i2 j3:Value) (h:ae):aiE P K s0 L1 [i2,j3] h=
 (OP (ai .lss i2 j3) fun x9=>
 aO x9
 (OP (a9 1 s0 j3) fun aX=>
 OP (af false 1 h aX) fun ba=>
 (True)∧
 OP (a9 1 s0 i2) fun bt=>
 OP (af false 1 h bt) fun bu=>
 (True)∧
 OP (a9 1 s0 i2) fun bI=>
 OH (aG 1 h bI ba) fun _ z1=>
 (True)∧
 OP (a9 1 s0 j3) fun bE=>
 OH (aG 1 z1 bE bu) fun _ z2=>
 (True)∧
 OP (ai .add i2 (.int .i64 (1))) fun au=>
 OP (ai .sub j3 (.int .i64 (1))) fun aC=>
 ([s0]:List Value)=[s0]∧L1 [au,aC] z2)
 (K (.tuple #[]) h)):=az (by kernel_rfl)
def Nj:Prop:=
 OP (bj s0) fun x5=>
 OP (ai .sub x5 (.int .i64 (1))) fun x6=>
 cN [(.int .i64 (0)),x6] h fun L1 xs hx=>
 aiE P K s0 L1 xs hx
theorem auY:aj P O5 (aS [] K) (bw [s0]) h=Nj P K s0 h:=by kernel_rfl
theorem f115 {K:VK} {s0:Value} {h:ae} (H:Nj prog K s0 h):ak prog 115 [s0] h K:=
 bP ayp (bL rfl) ((auY prog K s0 h).mpr H)
end
noncomputable section
variable (x0 x1 x4 x6 x9 : Value) (h : ae)
def agK:=bC prog 117 [[],[1,4,6],[1,4,6,9],[]]
@[irreducible] def Hd:=bN agK
@[irreducible] def ZI:=Hd.r.l.r.l
@[irreducible] def arn:=Hd.r.r
@[irreducible] def aro:=ZI.r.l
theorem ayr:agK=some (13,Hd,[.cell true 2 4]):=by kernel_rfl
def Xh (_P:Program) (K:VK):ar:=aS [.cell true 2 4] K
def Xi:ar:=aF (aj P arn (Xh P K)) (Xh P K)
def aiF:Prop:=ay (aj P ZI (Xi P K)) [1,4,6] [x1,x4,x6] h
def Fq:Prop:=ay (aj P aro (Xi P K)) [1,4,6,9] [x1,x4,x6,x9] h
theorem alc:Fq P K x1 x4 x6 x9 h=
 (OP (bX x6 x9 (.bool false)) fun aE=>
 OP (dh [(.bool false),(.slice none 0 0)] [(0,1,aE),(1,1,x1)]) fun aA=>
 OH (aG 2 h x4 aA) fun _ z1=>
 OP (af true 2 z1 x4) fun r0=>
 K r0 z1):=az (by kernel_rfl)
theorem aAW:aiF P K x1 x4 x6 h=
 (cD x6 true
 (OP (bj x1) fun x8=>
 OP (ai .gtr x8 (.int .i64 (0))) fun x9=>
 Fq P K x1 x4 x6 x9 h)
 (Fq P K x1 x4 x6 undef h)):=az (by kernel_rfl)
def Nl:Prop:=
 OH (aV 105 [(.bool false),(.slice none 0 0)] h) fun x4 z1=>
 aiF P K x1 x4 x0 z1
theorem au0:aj P Hd (aS [.cell true 2 4] K) (bw [x0,x1]) h=Nl P K x0 x1 h:=by kernel_rfl
theorem f117 {K:VK} {x0 x1:Value} {h:ae} (H:Nl prog K x0 x1 h):ak prog 117 [x0,x1] h K:=
 bP ayr (bL rfl) ((au0 prog K x0 x1 h).mpr H)
end
noncomputable section
variable (x0 x6 aC : Value) (L1 : LQ) (xs : List Value) (h : ae)
def agL:=bC prog 118 [[],[],[0],[0,6],[0,6,13],[],[],[0],[]]
@[irreducible] def He:=bN agL
@[irreducible] def Hf:=He.r.l.l.l
@[irreducible] def ZJ:=He.r.r
@[irreducible] def ZK:=Hf.l.l.r.l
@[irreducible] def art:=Hf.l.r
@[irreducible] def ars:=Hf.r
@[irreducible] def arq:=ZJ.l
@[irreducible] def arp:=ZK.r.l
theorem ays:agL=some (21,He,[.tmp 2]):=by kernel_rfl
def Mk (_P:Program) (K:VK):ar:=aS [.tmp 2] K
def an4:ar:=aF (aj P ZJ (Mk P K)) (Mk P K)
def an5:ar:=bO 0 (an4 P K)
def Ml:ar:=aF (fun f' aT=>(([]:List Nat).map f':List Value)=[]∧L1 (([0]:List Nat).map f') aT) (an5 P K)
def Xj:ar:=aF (aj P ars (Ml P K L1)) (Ml P K L1)
def Xk:ar:=aF (aj P art (Xj P K L1)) (Xj P K L1)
def aiG:Prop:=ay (aj P Hf (Ml P K L1)) ([]++[0]) ([]++xs) h
def aiH:Prop:=ay (aj P ZK (Xk P K L1)) [0,6] [x0,x6] h
def TE:Prop:=ay (aj P arp (Xk P K L1)) [0,6,13] [x0,x6,aC] h
def TF:Prop:=ay (aj P arq (Mk P K)) [0] [x0] h
theorem ald:TE P K x0 x6 aC L1 h=
 (OP (bX x6 aC (.bool false)) fun aI=>
 aO aI
 (OP (bj x0) fun bY=>
 OP (ai .sub bY (.int .i64 (1))) fun aR=>
 OP (mD 177 1 x0 none (some aR)) fun aP=>
 ([]:List Value)=[]∧L1 [aP] h)
 (TF P K x0 h)):=az (by kernel_rfl)
theorem ale:aiH P K x0 x6 L1 h=
 (cD x6 true
 (OP (bj x0) fun x9=>
 OP (ai .sub x9 (.int .i64 (1))) fun aE=>
 OP (a9 1 x0 aE) fun au=>
 OP (af false 1 h au) fun aA=>
 OP (ai .eql aA (.int .u32 (0))) fun aC=>
 TE P K x0 x6 aC L1 h)
 (TE P K x0 x6 undef L1 h)):=az (by kernel_rfl)
theorem aAY (L1:LQ) (x0:Value) (h:ae):aiG P K L1 [x0] h=
 (OP (bj x0) fun x4=>
 OP (ai .gtr x4 (.int .i64 (0))) fun x5=>
 aiH P K x0 x5 L1 h):=az (by kernel_rfl)
theorem aAX:TF P K x0 h=
 (K x0 h):=az (by kernel_rfl)
def Yz:Prop:=
 cN [x0] h fun L1 xs hx=>
 aiG P K L1 xs hx
theorem au1:aj P He (aS [.tmp 2] K) (bw [x0]) h=Yz P K x0 h:=by kernel_rfl
theorem f118 {K:VK} {x0:Value} {h:ae} (H:Yz prog K x0 h):ak prog 118 [x0] h K:=
 bP ays (bL rfl) ((au1 prog K x0 h).mpr H)
end
noncomputable section
variable (a0 : Value) (h : ae)
def agM:=bC prog 119 [[],[]]
@[irreducible] def ZL:=bN agM
theorem ayt:agM=some (9,ZL,[.cell true 2 2]):=by kernel_rfl
def Nm:Prop:=
 OH (bm 105 h a0) fun a1 z1=>
 OH (aV 105 [(.bool false),(.slice none 0 0)] z1) fun x2 z2=>
 OP (aM 0 a1) fun x3=>
 OP (af false 1 z2 x3) fun x4=>
 OP (gT .not x4) fun x5=>
 OP (aM 1 a1) fun x6=>
 OP (af false 1 z2 x6) fun x7=>
 ak P 117 [x5,x7] z2 fun x8 z3=>
 OH (aG 2 z3 x2 x8) fun _ z4=>
 OP (af true 2 z4 x2) fun r0=>
 K r0 z4
theorem au2:aj P ZL (aS [.cell true 2 2] K) (bw [a0]) h=Nm P K a0 h:=by kernel_rfl
theorem f119 {K:VK} {a0:Value} {h:ae} (H:Nm prog K a0 h):ak prog 119 [a0] h K:=
 bP ayt (bL rfl) ((au2 prog K a0 h).mpr H)
end
noncomputable section
variable (a0 b1 x5 i6 x7 x8 aR aP aX bu bI bE : Value) (L1 L2 : LQ) (xs : List Value) (h : ae)
def agP:=bC prog 122 [[],[],[],[1,5,18,19],[20],[],[],[],[],[],[1,5,6,7,18,19,20,25,26],[8,27],[],[],[],[],[],[1,5,6,8,18,19,20],[1,5,18,19,20],[5],[]]
@[irreducible] def Hi:=bN agP
@[irreducible] def Hj:=Hi.r.r.l.r.l.l
@[irreducible] def ZQ:=Hi.r.r.r
@[irreducible] def arz:=Hj.r.r.l.l.r.r.l.r.l.l
@[irreducible] def ZP:=Hj.r.r.l.l.r.r.r
@[irreducible] def ZR:=Hj.r.r.r
@[irreducible] def arC:=ZQ.l
@[irreducible] def arA:=ZP.l
@[irreducible] def arB:=ZR.l
theorem ayw:agP=some (68,Hi,[.tmp 4]):=by kernel_rfl
def Mo (_P:Program) (K:VK):ar:=aS [.tmp 4] K
def aoc:ar:=aF (aj P ZQ (Mo P K)) (Mo P K)
def aod:ar:=bO 0 (aoc P K)
def Gr:ar:=aF (fun f' aT=>(([1,5,18,19]:List Nat).map f':List Value)=[b1,x5,aR,aP]∧L1 (([20]:List Nat).map f') aT) (aod P K)
def aoe:ar:=aF (aj P ZR (Gr P K b1 x5 aR aP L1)) (Gr P K b1 x5 aR aP L1)
def Mq:ar:=bO 1 (aoe P K b1 x5 aR aP L1)
def an9:ar:=aF (aj P ZP (Mq P K b1 x5 aR aP L1)) (Mq P K b1 x5 aR aP L1)
def aoa:ar:=bO 2 (an9 P K b1 x5 aR aP L1)
def aob:ar:=aF (fun f' aT=>(([1,5,6,7,18,19,20,25,26]:List Nat).map f':List Value)=[b1,x5,i6,x7,aR,aP,aX,bu,bI]∧L2 (([8,27]:List Nat).map f') aT) (aoa P K b1 x5 aR aP L1)
def aiP:Prop:=ay (aj P Hj (Gr P K b1 x5 aR aP L1)) ([1,5,18,19]++[20]) ([b1,x5,aR,aP]++xs) h
def aiL:Prop:=ay (aj P arz (aob P K b1 x5 i6 x7 aR aP aX bu bI L1 L2)) ([1,5,6,7,18,19,20,25,26]++[8,27]) ([b1,x5,i6,x7,aR,aP,aX,bu,bI]++xs) h
def aiM:Prop:=ay (aj P arA (Mq P K b1 x5 aR aP L1)) [1,5,6,8,18,19,20] [b1,x5,i6,x8,aR,aP,aX] h
def aiN:Prop:=ay (aj P arB (Gr P K b1 x5 aR aP L1)) [1,5,18,19,20] [b1,x5,aR,aP,aX] h
def aiO:Prop:=ay (aj P arC (Mo P K)) [5] [x5] h
theorem aA4 (b1 x5 i6 x7 aR aP aX bu bI:Value) (L1 L2:LQ) (x8 bE:Value) (h:ae):aiL P K b1 x5 i6 x7 aR aP aX bu bI L1 L2 [x8,bE] h=
 (OP (ai .lss bE bI) fun cG=>
 aO cG
 (OP (a9 1 bu bE) fun dO=>
 OP (af false 1 h dO) fun cg=>
 OP (c8 .u64 x7) fun dK=>
 OP (c8 .u64 cg) fun dV=>
 OP (ai .mul dK dV) fun db=>
 OP (ai .add i6 bE) fun ep=>
 OP (a9 1 x5 ep) fun dW=>
 OP (af false 1 h dW) fun eB=>
 OP (c8 .u64 eB) fun bV=>
 OP (ai .add db bV) fun bJ=>
 OP (ai .add bJ x8) fun dE=>
 OP (ai .add i6 bE) fun bQ=>
 OP (c8 .u32 dE) fun cT=>
 OP (ai .shr dE (.int .u64 (32))) fun cY=>
 OP (a9 1 x5 bQ) fun gG=>
 OH (aG 1 h gG cT) fun _ z1=>
 OP (ai .add bE (.int .i64 (1))) fun jv=>
 ([b1,x5,i6,x7,aR,aP,aX,bu,bI]:List Value)=[b1,x5,i6,x7,aR,aP,aX,bu,bI]∧L2 [cY,jv] z1)
 (aiM P K b1 x5 i6 x8 aR aP aX L1 h)):=az (by kernel_rfl)
theorem aA5:aiM P K b1 x5 i6 x8 aR aP aX L1 h=
 (OP (bj b1) fun jR=>
 OP (ai .add i6 jR) fun fQ=>
 OP (c8 .u32 x8) fun jS=>
 OP (a9 1 x5 fQ) fun jd=>
 OH (aG 1 h jd jS) fun _ z1=>
 aiN P K b1 x5 aR aP aX L1 z1):=az (by kernel_rfl)
theorem aA6:aiN P K b1 x5 aR aP aX L1 h=
 (OP (ai .add aX (.int .i64 (1))) fun gn=>
 ([b1,x5,aR,aP]:List Value)=[b1,x5,aR,aP]∧L1 [gn] h):=az (by kernel_rfl)
theorem aA8 (b1 x5 aR aP:Value) (L1:LQ) (aX:Value) (h:ae):aiP P K b1 x5 aR aP L1 [aX] h=
 (OP (ai .lss aX aP) fun ba=>
 aO ba
 (OP (a9 1 aR aX) fun cm=>
 OP (af false 1 h cm) fun bt=>
 OP (bj b1) fun bI=>
 cN [(.int .u64 (0)),(.int .i64 (0))] h fun L2 xs hx=>
 aiL P K b1 x5 aX bt aR aP aX b1 bI L1 L2 xs hx)
 (aiO P K x5 h)):=az (by kernel_rfl)
theorem aA7:aiO P K x5 h=
 (ak P 118 [x5] h fun fX z1=>
 K fX z1):=az (by kernel_rfl)
def Np:Prop:=
 OP (bj a0) fun aC=>
 OP (bj b1) fun bf=>
 OP (ai .add aC bf) fun bp=>
 OH (nf 177 4 [(.int .u32 (0))] h bp bp) fun bY z1=>
 OP (bj a0) fun aP=>
 cN [(.int .i64 (0))] z1 fun L1 xs hx=>
 aiP P K b1 bY a0 aP L1 xs hx
theorem au5:aj P Hi (aS [.tmp 4] K) (bw [a0,b1]) h=Np P K a0 b1 h:=by kernel_rfl
theorem f122 {K:VK} {a0 b1:Value} {h:ae} (H:Np prog K a0 b1 h):ak prog 122 [a0,b1] h K:=
 bP ayw (bL rfl) ((au5 prog K a0 b1 h).mpr H)
end
noncomputable section
variable (a0 b1 i5 : Value) (L1 : LQ) (xs : List Value) (h : ae)
def agT:=bC prog 126 [[],[],[],[],[],[],[],[],[0,1],[5],[],[],[],[],[],[],[],[],[],[]]
@[irreducible] def Ho:=bN agT
@[irreducible] def arL:=Ho.r.r.l.r.l.l
@[irreducible] def arM:=Ho.r.r.r
theorem ayA:agT=some (41,Ho,[.tmp 4]):=by kernel_rfl
def Xr (_P:Program) (K:VK):ar:=aS [.tmp 4] K
def aop:ar:=aF (aj P arM (Xr P K)) (Xr P K)
def aon:ar:=bO 0 (aop P K)
def aoo:ar:=aF (fun f' aT=>(([0,1]:List Nat).map f':List Value)=[a0,b1]∧L1 (([5]:List Nat).map f') aT) (aon P K)
def aiY:Prop:=ay (aj P arL (aoo P K a0 b1 L1)) ([0,1]++[5]) ([a0,b1]++xs) h
theorem aBf (a0 b1:Value) (L1:LQ) (i5:Value) (h:ae):aiY P K a0 b1 L1 [i5] h=
 (OP (ai .geq i5 (.int .i64 (0))) fun aX=>
 aO aX
 (OP (a9 1 a0 i5) fun bu=>
 OP (af false 1 h bu) fun bI=>
 (True)∧
 OP (a9 1 b1 i5) fun cL=>
 OP (af false 1 h cL) fun dO=>
 (True)∧
 OP (ai .neq bI dO) fun cg=>
 aO cg
 (OP (a9 1 a0 i5) fun cj=>
 OP (af false 1 h cj) fun dV=>
 (True)∧
 OP (a9 1 b1 i5) fun dD=>
 OP (af false 1 h dD) fun dZ=>
 (True)∧
 OP (ai .lss dV dZ) fun ep=>
 aO ep
 (K (.int .i64 (-1)) h)
 (K (.int .i64 (1)) h))
 (OP (ai .sub i5 (.int .i64 (1))) fun bH=>
 ([a0,b1]:List Value)=[a0,b1]∧L1 [bH] h))
 (K (.int .i64 (0)) h)):=az (by kernel_rfl)
def Nt:Prop:=
 OP (bj a0) fun x7=>
 OP (bj b1) fun x9=>
 OP (ai .neq x7 x9) fun aE=>
 aO aE
 (OP (bj a0) fun aA=>
 OP (bj b1) fun aI=>
 OP (ai .lss aA aI) fun bf=>
 aO bf
 (K (.int .i64 (-1)) h)
 (K (.int .i64 (1)) h))
 (OP (bj a0) fun bY=>
 OP (ai .sub bY (.int .i64 (1))) fun aR=>
 cN [aR] h fun L1 xs hx=>
 aiY P K a0 b1 L1 xs hx)
theorem au9:aj P Ho (aS [.tmp 4] K) (bw [a0,b1]) h=Nt P K a0 b1 h:=by kernel_rfl
theorem f126 {K:VK} {a0 b1:Value} {h:ae} (H:Nt prog K a0 b1 h):ak prog 126 [a0,b1] h K:=
 bP ayA (bL rfl) ((au9 prog K a0 b1 h).mpr H)
end
noncomputable section
variable (a0 b1 : Value) (h : ae)
def agU:=bC prog 127 [[],[]]
@[irreducible] def Z4:=bN agU
theorem ayB:agU=some (9,Z4,[.cell true 2 4]):=by kernel_rfl
def Nu:Prop:=
 OH (bm 105 h a0) fun a2 z1=>
 OH (bm 105 z1 b1) fun b3 z2=>
 OH (aV 105 [(.bool false),(.slice none 0 0)] z2) fun x4 z3=>
 OP (af true 2 z3 a2) fun x5=>
 (True)∧
 OP (af true 2 z3 b3) fun x6=>
 (True)∧
 ak P 119 [x6] z3 fun x7 z4=>
 (af true 2 z4 a2=some x5∧True)∧
 ak P 113 [x5,x7] z4 fun x8 z5=>
 (True)∧
 OH (aG 2 z5 x4 x8) fun _ z6=>
 (True)∧
 OP (af true 2 z6 x4) fun r0=>
 K r0 z6
theorem ava:aj P Z4 (aS [.cell true 2 4] K) (bw [a0,b1]) h=Nu P K a0 b1 h:=by kernel_rfl
theorem f127 {K:VK} {a0 b1:Value} {h:ae} (H:Nu prog K a0 b1 h):ak prog 127 [a0,b1] h K:=
 bP ayB (bL rfl) ((ava prog K a0 b1 h).mpr H)
end
noncomputable section
variable (a0 b1 x5 x6 i7 y8 ba bH : Value) (L1 : LQ) (xs : List Value) (h : ae)
def agV:=bC prog 128 [[],[],[0,1],[],[],[],[0,1,5,21],[6,22],[],[],[],[],[],[0,1,5,6,7,8,21,22],[0,1,5,6,21,22],[0,5,6],[],[]]
@[irreducible] def O8:=bN agV
@[irreducible] def Pa:=O8.r.r.l
@[irreducible] def O9:=Pa.r.r.l.r.l.l
@[irreducible] def Z6:=Pa.r.r.r
@[irreducible] def arN:=O9.r.r.l.l.r.r.r.l
@[irreducible] def Z5:=O9.r.r.r
@[irreducible] def arP:=Z6.l
@[irreducible] def arO:=Z5.l
theorem ayC:agV=some (54,O8,[.tmp 4]):=by kernel_rfl
def Gs (_P:Program) (K:VK):ar:=aS [.tmp 4] K
def aos:ar:=aF (aj P Z6 (Gs P K)) (Gs P K)
def aot:ar:=bO 0 (aos P K)
def Gt:ar:=aF (fun f' aT=>(([0,1,5,21]:List Nat).map f':List Value)=[a0,b1,x5,ba]∧L1 (([6,22]:List Nat).map f') aT) (aot P K)
def aoq:ar:=aF (aj P Z5 (Gt P K a0 b1 x5 ba L1)) (Gt P K a0 b1 x5 ba L1)
def aor:ar:=bO 1 (aoq P K a0 b1 x5 ba L1)
def Kn:Prop:=ay (aj P Pa (Gs P K)) [0,1] [a0,b1] h
def aiZ:Prop:=ay (aj P O9 (Gt P K a0 b1 x5 ba L1)) ([0,1,5,21]++[6,22]) ([a0,b1,x5,ba]++xs) h
def Km:Prop:=ay (aj P arN (aor P K a0 b1 x5 ba L1)) [0,1,5,6,7,8,21,22] [a0,b1,x5,x6,i7,y8,ba,bH] h
def ai0:Prop:=ay (aj P arO (Gt P K a0 b1 x5 ba L1)) [0,1,5,6,21,22] [a0,b1,x5,x6,ba,bH] h
def ai1:Prop:=ay (aj P arP (Gs P K)) [0,5,6] [a0,x5,x6] h
theorem aBh:Km P K a0 b1 x5 x6 i7 y8 ba bH L1 h=
 (OP (a9 1 a0 i7) fun dD=>
 OP (af false 1 h dD) fun dZ=>
 ak P 133 [dZ,y8,x6] h fun eB z1=>
 OP (ca 0 eB) fun bV=>
 OP (ca 1 eB) fun bJ=>
 OP (a9 1 x5 i7) fun cJ=>
 OH (aG 1 z1 cJ bV) fun _ z2=>
 ai0 P K a0 b1 x5 bJ ba bH L1 z2):=az (by kernel_rfl)
theorem aBi:ai0 P K a0 b1 x5 x6 ba bH L1 h=
 (OP (ai .add bH (.int .i64 (1))) fun dE=>
 ([a0,b1,x5,ba]:List Value)=[a0,b1,x5,ba]∧L1 [x6,dE] h):=az (by kernel_rfl)
theorem aBg (a0 b1 x5 ba:Value) (L1:LQ) (x6 bH:Value) (h:ae):aiZ P K a0 b1 x5 ba L1 [x6,bH] h=
 (OP (ai .lss bH ba) fun cm=>
 aO cm
 (OP (bj b1) fun bE=>
 OP (ai .lss bH bE) fun cG=>
 aO cG
 (OP (a9 1 b1 bH) fun cg=>
 OP (af false 1 h cg) fun cM=>
 Km P K a0 b1 x5 x6 bH cM ba bH L1 h)
 (Km P K a0 b1 x5 x6 bH (.int .u32 (0)) ba bH L1 h))
 (ai1 P K a0 x5 x6 h)):=az (by kernel_rfl)
theorem aBj:ai1 P K a0 x5 x6 h=
 (OP (bj a0) fun gF=>
 OP (a9 1 x5 gF) fun cB=>
 OH (aG 1 h cB x6) fun _ z1=>
 ak P 118 [x5] z1 fun j6 z2=>
 K j6 z2):=az (by kernel_rfl)
theorem aBk:Kn P K a0 b1 h=
 (OP (bj a0) fun bY=>
 OP (ai .add bY (.int .i64 (1))) fun aR=>
 OH (nf 177 4 [(.int .u32 (0))] h aR aR) fun aP z1=>
 OP (bj a0) fun ba=>
 cN [(.int .u32 (0)),(.int .i64 (0))] z1 fun L1 xs hx=>
 aiZ P K a0 b1 aP ba L1 xs hx):=az (by kernel_rfl)
def Nv:Prop:=
 OP (bj a0) fun aE=>
 OP (bj b1) fun aA=>
 OP (ai .lss aE aA) fun aC=>
 aO aC
 (Kn P K b1 a0 h)
 (Kn P K a0 b1 h)
theorem avb:aj P O8 (aS [.tmp 4] K) (bw [a0,b1]) h=Nv P K a0 b1 h:=by kernel_rfl
theorem f128 {K:VK} {a0 b1:Value} {h:ae} (H:Nv prog K a0 b1 h):ak prog 128 [a0,b1] h K:=
 bP ayC (bL rfl) ((avb prog K a0 b1 h).mpr H)
end
noncomputable section
variable (a0 b1 x5 x6 i7 y8 aC aI : Value) (L1 : LQ) (xs : List Value) (h : ae)
def agW:=bC prog 129 [[],[],[],[],[0,1,5,13],[6,14],[],[],[],[],[],[0,1,5,6,7,8,13,14],[0,1,5,6,13,14],[5],[]]
@[irreducible] def Hp:=bN agW
@[irreducible] def Pb:=Hp.r.r.r.l.r.l.l
@[irreducible] def Z8:=Hp.r.r.r.r
@[irreducible] def arQ:=Pb.r.r.l.l.r.r.r.l
@[irreducible] def Z7:=Pb.r.r.r
@[irreducible] def arS:=Z8.l
@[irreducible] def arR:=Z7.l
theorem ayD:agW=some (41,Hp,[.tmp 4]):=by kernel_rfl
def Mt (_P:Program) (K:VK):ar:=aS [.tmp 4] K
def aow:ar:=aF (aj P Z8 (Mt P K)) (Mt P K)
def aox:ar:=bO 0 (aow P K)
def Gu:ar:=aF (fun f' aT=>(([0,1,5,13]:List Nat).map f':List Value)=[a0,b1,x5,aC]∧L1 (([6,14]:List Nat).map f') aT) (aox P K)
def aou:ar:=aF (aj P Z7 (Gu P K a0 b1 x5 aC L1)) (Gu P K a0 b1 x5 aC L1)
def aov:ar:=bO 1 (aou P K a0 b1 x5 aC L1)
def ai4:Prop:=ay (aj P Pb (Gu P K a0 b1 x5 aC L1)) ([0,1,5,13]++[6,14]) ([a0,b1,x5,aC]++xs) h
def Ko:Prop:=ay (aj P arQ (aov P K a0 b1 x5 aC L1)) [0,1,5,6,7,8,13,14] [a0,b1,x5,x6,i7,y8,aC,aI] h
def ai2:Prop:=ay (aj P arR (Gu P K a0 b1 x5 aC L1)) [0,1,5,6,13,14] [a0,b1,x5,x6,aC,aI] h
def ai3:Prop:=ay (aj P arS (Mt P K)) [5] [x5] h
theorem aBl:Ko P K a0 b1 x5 x6 i7 y8 aC aI L1 h=
 (OP (a9 1 a0 i7) fun dO=>
 OP (af false 1 h dO) fun cg=>
 ak P 134 [cg,y8,x6] h fun cj z1=>
 OP (ca 0 cj) fun dV=>
 OP (ca 1 cj) fun db=>
 OP (a9 1 x5 i7) fun fF=>
 OH (aG 1 z1 fF dV) fun _ z2=>
 ai2 P K a0 b1 x5 db aC aI L1 z2):=az (by kernel_rfl)
theorem aBm:ai2 P K a0 b1 x5 x6 aC aI L1 h=
 (OP (ai .add aI (.int .i64 (1))) fun dD=>
 ([a0,b1,x5,aC]:List Value)=[a0,b1,x5,aC]∧L1 [x6,dD] h):=az (by kernel_rfl)
theorem aBo (a0 b1 x5 aC:Value) (L1:LQ) (x6 aI:Value) (h:ae):ai4 P K a0 b1 x5 aC L1 [x6,aI] h=
 (OP (ai .lss aI aC) fun bf=>
 aO bf
 (OP (bj b1) fun aP=>
 OP (ai .lss aI aP) fun aX=>
 aO aX
 (OP (a9 1 b1 aI) fun cm=>
 OP (af false 1 h cm) fun bt=>
 Ko P K a0 b1 x5 x6 aI bt aC aI L1 h)
 (Ko P K a0 b1 x5 x6 aI (.int .u32 (0)) aC aI L1 h))
 (ai3 P K x5 h)):=az (by kernel_rfl)
theorem aBn:ai3 P K x5 h=
 (ak P 118 [x5] h fun ep z1=>
 K ep z1):=az (by kernel_rfl)
def Nw:Prop:=
 OP (bj a0) fun aE=>
 OH (nf 177 4 [(.int .u32 (0))] h aE aE) fun au z1=>
 OP (bj a0) fun aC=>
 cN [(.int .u32 (0)),(.int .i64 (0))] z1 fun L1 xs hx=>
 ai4 P K a0 b1 au aC L1 xs hx
theorem avc:aj P Hp (aS [.tmp 4] K) (bw [a0,b1]) h=Nw P K a0 b1 h:=by kernel_rfl
theorem f129 {K:VK} {a0 b1:Value} {h:ae} (H:Nw prog K a0 b1 h):ak prog 129 [a0,b1] h K:=
 bP ayD (bL rfl) ((avc prog K a0 b1 h).mpr H)
end
noncomputable section
variable (x0 y1 x2 : Value) (h : ae)
def ag0:=bC prog 133 [[],[],[],[]]
@[irreducible] def aac:=bN ag0
theorem ayH:ag0=some (22,aac,[.tmp 6,.tmp 7]):=by kernel_rfl
def Nz (_:Program) (K:VK) (x0 y1 x2:Value) (h:ae):Prop:=
 OP (c8 .u64 x0) fun aE=>
 OP (c8 .u64 y1) fun aA=>
 OP (ai .add aE aA) fun aC=>
 OP (c8 .u64 x2) fun bf=>
 OP (ai .add aC bf) fun bp=>
 OP (c8 .u32 bp) fun aR=>
 OP (ai .shr bp (.int .u64 (32))) fun aX=>
 OP (c8 .u32 aX) fun ba=>
 K (.tuple #[aR,ba]) h
theorem avg:aj P aac (aS [.tmp 6,.tmp 7] K) (bw [x0,y1,x2]) h=Nz P K x0 y1 x2 h:=by kernel_rfl
theorem f133 {K:VK} {x0 y1 x2:Value} {h:ae} (H:Nz prog K x0 y1 x2 h):ak prog 133 [x0,y1,x2] h K:=
 bP ayH (bL rfl) ((avg prog K x0 y1 x2 h).mpr H)
end
noncomputable section
variable (x0 y1 x2 : Value) (h : ae)
def ag1:=bC prog 134 [[],[],[]]
@[irreducible] def aad:=bN ag1
theorem ayI:ag1=some (25,aad,[.tmp 6,.tmp 7]):=by kernel_rfl
def NA (_:Program) (K:VK) (x0 y1 x2:Value) (h:ae):Prop:=
 OP (ai .sub x0 y1) fun aE=>
 OP (ai .sub aE x2) fun aA=>
 OP (gT .xor x0) fun aI=>
 OP (ai .and aI y1) fun bp=>
 OP (ai .xor x0 y1) fun aP=>
 OP (gT .xor aP) fun aX=>
 OP (ai .and aX aA) fun bH=>
 OP (ai .or bp bH) fun cm=>
 OP (ai .shr cm (.int .u64 (31))) fun bt=>
 K (.tuple #[aA,bt]) h
theorem avh:aj P aad (aS [.tmp 6,.tmp 7] K) (bw [x0,y1,x2]) h=NA P K x0 y1 x2 h:=by kernel_rfl
theorem f134 {K:VK} {x0 y1 x2:Value} {h:ae} (H:NA prog K x0 y1 x2 h):ak prog 134 [x0,y1,x2] h K:=
 bP ayI (bL rfl) ((avh prog K x0 y1 x2 h).mpr H)
end
end
end Go.Proofs.YtelmdbpaoifmoaaGreat
