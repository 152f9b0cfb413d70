/-
  Part 3 of the texts behind a statement of this seat: Sim27, Sim30, Sim31, Sim22, ZEvH, Sim28, ZM1, Sp6, Sp13, Sp10, ZMe1, Sp14, Sp15, Sq16, Sq17, ZMe2, ZMe3, ZM4, Sq18, ZMe5, ZM2, Sq19, Sq20, ZMe6, ZLvO, Sim29, Sim32, ZLv1, ZK, Sim36, ZU.
-/
import Derived.Test.YtelmdbpaoifmoaaGreatProg
import Derived.KernelRfl
import Derived.Test.YtelmdbpaoifmoaaGreatRows
import Derived.Test.YtelmdbpaoifmoaaGreatMg2
open Bool (and_eq_true false_eq_true)
open Classical (byContradiction)
open Go.Proofs.Tryz (prog)
open Int (mul_assoc)
open List (all_append all_eq_true cons_append getD_eq_getElem?_getD getElem?_append_left getElem?_eq_getElem getElem_mem length_cons length_map mem_append mem_cons mem_filter mem_map mem_range replicate take_length)
open Nat (add_zero eq_of_beq_eq_true eq_of_testBit_eq le_refl lt_of_lt_of_le pow_le_pow_right pow_pos testBit_and testBit_or zero_add zero_le)
open Option (bind_some)
namespace Go.Sim
section
inductive Dw (o:Option (List (Value×ae))) (K:Value→ae→Prop):Prop | mk:(∃l,o=some l∧∀p∈l,K p.1 p.2)→Dw o K
inductive Di (P:Program) (F:FuncId) (args:List Value) (h:ae) (K:Value→ae→Prop):Prop | mk:SW P F args h K→Di P F args h K
theorem Zg (o:Option (List (Value×ae))) (K:Value→ae→Prop):Dw o K=∃l,o=some l∧∀p∈l,K p.1 p.2:=propext ⟨fun ⟨h⟩=>h,.mk⟩
theorem aoB:Di=SW:=funext fun _=>funext fun _=>funext fun _=>funext fun _=>funext fun _=>propext ⟨fun ⟨h⟩=>h,.mk⟩
def Gb (P:Program) (o:iz) (f:Nat→Value) (h:ae) (K:Value→ae→Prop):Prop:=
 match o with
 | .e (.next it)=>Dw (AL h (ev f it)) K
 | .p o=>FX o (ev f) fun v=>K v h
 | .l o=>OP (fR o (ev f) h) fun v=>K v h
 | .e o=>OH (gw o (ev f) h) K
 | .call g args=>ak P g (args.map (ev f)) h K
 | .lG x args=>vE P (ev f x) (args.map (ev f)) h K
theorem aFA (P:Program) (o:iz) (f:Nat→Value) (h:ae) (K:Value→ae→Prop):Gb P o f h K=CV P o f h K:=by
 cases o with
 | e eo=>cases eo <;> simp only [Gb,CV,dm,Nv,Zg]
 | _=>simp only [Gb,CV,dm,Vs,Bt,vD,MK]
def Rj (P:Program) (l:List jA) (K:(Nat→Value)→ae→Prop):(Nat→Value)→ae→Prop:=
 List.rec (motive:=fun _=>(Nat→Value)→ae→Prop) (fun f h=>K f h) (fun o _ ih f h=>Gb P o.op f h fun v h'=>ih (dO f o.dst v) h') l
theorem aw5 (P:Program) (l:List jA) (K:(Nat→Value)→ae→Prop):∀(f:Nat→Value) (h:ae),Rj P l K f h=BV P l K f h:=by
 induction l with
 | nil=>intro f h;rfl
 | cons o os ih=>
  intro f h
  show Gb P o.op f h (fun v h'=>Rj P os K (dO f o.dst v) h')=_
  rw [aFA,BV]
  congr 1
  funext v h'
  exact ih _ _
def TZ (P:Program) (g:Option (Nat×Bool)) (l:List jA) (K:(Nat→Value)→ae→Prop) (f:Nat→Value) (h:ae):Prop:=
 match g with
 | none=>Rj P l K f h
 | some (s,b)=>cC (f s) b (Er P l K f h) (K (C0 l f) h)
theorem aAJ (P:Program) (g:Option (Nat×Bool)) (l:List jA) (K:(Nat→Value)→ae→Prop) (f:Nat→Value) (h:ae):TZ P g l K f h=Kz P g l K f h:=by
 unfold TZ Kz tM
 split <;> simp only [aw5,ad4,ML]
noncomputable def iM (P:Program) (c:fx):ar→(Nat→Value)→ae→Prop:=
 fx.rec (motive:=fun _=>ar→(Nat→Value)→ae→Prop)
  (fun K f h=>K .normal f h)
  (fun l K f h=>uw P l 0 [] [] (K .normal) f h)
  (fun g l K f h=>TZ P g l (K .normal) f h)
  (fun _ _ ia ib K f h=>ia (aG (ib K) K) f h)
  (fun ls _ ic K f h=>ay (ic K) ls (ls.map f) h)
  (fun c _ _ ia ib K f h=>aR (ev f c) (ia K f h) (ib K f h))
  (fun id _ ic K f h=>ic (bO id K) f h)
  (fun ks ls _ ic K f h=>cQ (ls.map f) h fun L xs hx=>ay (ic (aG (fun f' aW=>ks.map f'=ks.map f∧L (ls.map f') aW) K)) (ks++ls) (ks.map f++xs) hx)
  (fun id K f h=>K (.exit id) f h)
  (fun K f h=>K .ret f h)
  (fun g ls c K f h=>Bu P (ev f g) ls (ls.map f) c h (K .normal f)) c
theorem ay2 (P:Program) (c:fx):iM P c=me P c:=by
 induction c with
 | skip=>rfl
 | IM l=>funext K f h;exact Je P l 0 [] [] (K .normal) f h
 | ops g l=>funext K f h;exact aAJ P g l (K .normal) f h
 | seq a b sB tD=>
  funext K f h
  show iM P a (aG (iM P b K) K) f h=me P a (aG (me P b K) K) f h
  rw [sB,tD]
 | cut ls c ih=>
  funext K f h
  show ay (iM P c K) ls (ls.map f) h=BH (me P c K) ls (ls.map f) h
  rw [ih,Dk]
 | cond c a b sB tD=>
  funext K f h
  show aR (ev f c) (iM P a K f h) (iM P b K f h)=pS (ev f c) (me P a K f h) (me P b K f h)
  rw [sB,tD,XS]
 | block id c ih=>
  funext K f h
  show iM P c (bO id K) f h=me P c (bO id K) f h
  rw [ih]
 | loop ks ls c ih=>
  funext K f h
  show cQ (ls.map f) h (fun L xs hx=>ay (iM P c (aG (fun f' aW=>ks.map f'=ks.map f∧L (ls.map f') aW) K)) (ks++ls) (ks.map f++xs) hx)=
   AE (ls.map f) h (fun L xs hx=>me P c (aG (fun f' aW=>ks.map f'=ks.map f∧L (ls.map f') aW) K) (kF (ks++ls) (ks.map f++xs)) hx)
  rw [ih,Zf,Dk]
  rfl
 | exit id=>rfl
 | ret=>rfl
 | range g ls c=>
  funext K f h
  show Bu P (ev f g) ls (ls.map f) c h (K .normal f)=uW P (ev f g) ls (ls.map f) c h (K .normal f)
  rw [Zh]
theorem au3 {P:Program} {F:FuncId} {N:Nat} {ic:fx} {rs:List kN} {hs:Hints} {h:ae} (hc:bz P F hs=some (N,ic,rs)) {args:List Value} (ha:args.length≤N)
  {K:Value→ae→Prop} (hi:iM P ic (aT rs K) (bt args) h):Di P F args h K:=
 .mk (ayH hc ha (by rw [←ay2,←ZG];exact hi))
theorem arw {l:List (Value×ae)} {K:Value→ae→Prop}:Dw (some l) K↔∀p∈l,K p.1 p.2:=by
 rw [Zg]
 constructor
 ·rintro ⟨l',h1,h2⟩;cases h1;exact h2
 ·intro h;exact ⟨l,rfl,h⟩
section gc
variable {P : Program} {F : FuncId} {args : List Value} {h : ae}
theorem au4 {K:Value→ae→Prop} {V:Nat→Value} {o:aj} (hV:pc V) (ho:wO o=true)
  (hc:Di P F args h fun u h'=>EX h h'∧∃i,h.length≤i∧h'[i]?=some o∧u=V i) (hk:K (V h.length) (h++[o])):ak P F args h K:=by
 rw [vD]
 rw [aoB] at hc
 refine ⟨_,_,?_,hk⟩
 intro ρ args' w hv H
 refine (hc ρ args' w hv H).mono ?_
 rintro e w' ⟨u,h',v',av,⟨hex,i,hi,bX,rfl⟩,rfl,kW,H',T⟩
 let nf:aK:=fun k=>if k=h.length then av i else ρ k
 have r1:nf h.length=av i:=by simp [nf]
 have r2:∀k,k≠h.length→nf k=ρ k:=fun k hk=>by simp [nf,hk]
 have r3:∀k r,ρ k=some r→av k=some r∧k<h.length∧h'[k]?=h[k]?:=fun k r hr=>⟨T.ext k r hr,H.lt hr,hex.2 k (H.lt hr)⟩
 have old:∀k,k<h.length→(h++[o])[k]?=h[k]?:=fun k hk=>getElem?_append_left hk
 have new:(h++[o])[h.length]?=some o:=by simp
 have hle:ρ.le nf:=by
  intro k r hr
  rw [r2 k (by have:=H.lt hr;omega)]
  exact hr
 have mt:∀k,k<h.length→(cF (h++[o]) k↔cF h' k):=fun k hk=>by unfold cF;rw [old k hk,hex.2 k hk]
 have Fh:∀k,k<h.length→(fq (h++[o]) k↔fq h' k):=fun k hk=>by unfold fq;rw [old k hk,hex.2 k hk]
 have TF:cF (h++[o]) h.length↔cF h' i:=by unfold cF;rw [new,bX]
 have Tt:fq (h++[o]) h.length↔fq h' i:=by unfold fq;rw [new,bX]
 refine ⟨v',nf,rfl,hV av nf i h.length v' r1 kW,⟨?_,?_,?_⟩,?_⟩
 ·intro k r hr
  by_cases e:k=h.length
  ·subst e
   rw [r1] at hr
   obtain ⟨o',dS,nV⟩:=H'.obj i r hr
   rw [bX] at dS
   cases dS
   exact ⟨o,new,wO.rel ho nV⟩
  ·rw [r2 k e] at hr
   obtain ⟨q1,q2,q3⟩:=r3 k r hr
   obtain ⟨o',dS,nV⟩:=H.obj k r hr
   obtain ⟨o2,EM,Sl⟩:=H'.obj k r q1
   rw [q3,dS] at EM
   cases EM
   exact ⟨o',by rw [old k q2];exact dS,(nV.down T.ext Sl).mono hle rfl⟩
 ·intro a b r s ha hb nz hm hl
  by_cases ea:a=h.length <;> by_cases eb:b=h.length
  ·omega
  ·subst ea
   rw [r1] at ha
   rw [r2 b eb] at hb
   obtain ⟨q1,q2,q3⟩:=r3 b s hb
   have:=H'.inj i b r s ha q1 nz (TF.1 hm) ((Fh b q2).1 hl)
   omega
  ·subst eb
   rw [r1] at hb
   rw [r2 a ea] at ha
   obtain ⟨q1,q2,q3⟩:=r3 a r ha
   have:=H'.inj a i r s q1 hb nz ((mt a q2).1 hm) (Tt.1 hl)
   omega
  ·rw [r2 a ea] at ha
   rw [r2 b eb] at hb
   obtain ⟨q1,q2,_⟩:=r3 a r ha
   obtain ⟨p1,p2,_⟩:=r3 b s hb
   exact H'.inj a b r s q1 p1 nz ((mt a q2).1 hm) ((Fh b p2).1 hl)
 ·intro k r hr
  by_cases e:k=h.length
  ·subst e
   rw [r1] at hr
   exact H'.aY i r hr
  ·rw [r2 k e] at hr
   exact H.aY k r hr
 ·exact {
   ext:=hle
   len:=by simp
   jQ:=fun k r hr=>H.lt hr
   kinds:=fun k hk hm=>by unfold cF at hm⊢;rw [old k hk] at hm;exact hm
   fresh:=by
    intro k r hr hn
    by_cases e:k=h.length
    ·subst e
     rw [r1] at hr
     have fc:ρ i=none:=by
      cases hq:ρ i with
      | none=>rfl
      | some q=>exact absurd (H.lt hq) (by omega)
     exact ⟨le_refl _,(T.fresh i r hr fc).2⟩
    ·rw [r2 k e] at hr
     rw [hr] at hn
     cases hn
   ji:=T.ji
   iK:=T.iK
   os:=T.os
   tape:=T.tape
   output:=T.output }
end gc
end
section
theorem EX.load {h h':ae} (k:EX h h') {agg:Bool} {n:Nat} {a v:Value} (hl:af agg n h a=some v):af agg n h' a=some v:=by
 unfold af at hl⊢
 split at hl
 ·rename_i i o
  cases hc:aP h i with
  | none=>rw [hc] at hl;cases hl
  | some xs=>rw [hc] at hl;rw [k.cells hc];exact hl
 ·cases hl
theorem eR (i:Nat) (h:i<4611686018427387904):IntKind.wrap .i64 ((i:Int)+1)=((i+1:Nat):Int):=by
 rw [wrap64 (by omega) (by omega)];omega
@[simp] theorem bU (o i k : Nat) : aL o (pt i k) = some (pt i (k + o)) := rfl
@[simp] theorem AM (i k : Nat) : ym (pt i k) = some (pt i k) := rfl
def sE (ps:List (Int×Int)):List Value:=ps.flatMap fun p=>[I p.1,I p.2]
theorem La:∀{ps:List (Int×Int)} {k:Nat} {p:Int×Int},ps[k]?=some p→(sE ps)[2*k]?=some (I p.1)∧(sE ps)[2*k+1]?=some (I p.2)
 | [],k,p,h=>by simp at h
 | q::ps,0,p,h=>by simp at h;subst h;simp [sE]
 | q::ps,k+1,p,h=>by
  have:=La (ps:=ps) (k:=k) (p:=p) (by simpa using h)
  rw [show 2*(k+1)=2*k+1+1 by omega]
  simpa [sE] using this
theorem alK (ps:List (Int×Int)):(sE ps).length=2*ps.length:=by
 induction ps with
 | nil=>rfl
 | cons p ps ih=>simp only [sE,List.flatMap_cons,List.length_append,length_cons,List.length_nil] at ih⊢;omega
structure PS (h:ae) (v:Value) (ps:List (Int×Int)):Prop where
 len:bj v=some (I ps.length)
 get:∀k (hk:k<ps.length),∃i o,bf 2 v (I k)=some (pt i o)∧af false 1 h (pt i o)=some (I ps[k].1)∧af false 1 h (pt i (o+1))=some (I ps[k].2)∧
  af true 2 h (pt i o)=some (.agg #[I ps[k].1,I ps[k].2])
theorem PS.mono {h h':ae} {v:Value} {ps:List (Int×Int)} (k:EX h h') (p:PS h v ps):PS h' v ps:=
 ⟨p.len,fun j hj=>let ⟨i,o,a,b,c,d⟩:=p.get j hj;⟨i,o,a,EX.load k b,EX.load k c,EX.load k d⟩⟩
theorem PS.nil (h:ae):PS h (.slice none 0 0) []:=⟨rfl,fun k hk=>by simp at hk⟩
theorem PS.sl {h:ae} {e:TypeId} {i:Nat} {ps:List (Int×Int)} (hc:aP h i=some (sE ps)):PS h (sl e i 0 ps.length) ps:=by
 refine ⟨rfl,fun k hk=>⟨i,2*k,?_,?_,?_,?_⟩⟩
 ·have:(0:Int)≤(k:Int)∧(k:Int)<(ps.length:Int):=by omega
  simp [Go.Sim.sl,bf,this,Nat.mul_comm]
 ·obtain ⟨g1,g2⟩:=La (getElem?_eq_getElem hk)
  simp [af,hc,b9,g1]
 ·obtain ⟨g1,g2⟩:=La (getElem?_eq_getElem hk)
  simp [af,hc,b9,g2]
 ·obtain ⟨g1,g2⟩:=La (getElem?_eq_getElem hk)
  have hl:=alK ps
  have:((sE ps).drop (2*k)).take 2=[I ps[k].1,I ps[k].2]:=by
   apply List.ext_getElem?
   intro j
   rw [List.getElem?_take]
   match j with
   | 0=>simpa using g1
   | 1=>simpa using g2
   | j+2=>simp;omega
  have h2:2*k+2≤(sE ps).length:=by omega
  simp [af,hc,b9,this,h2]
def fy (b:Nat) (hx:ae) (e:TypeId) (v:Value) (xs:List Value):Prop:=
 (v=.slice none 0 0∧xs=[])∨(∃i,b≤i∧v=sl e i 0 xs.length∧hx[i]?=some (.arr e xs))
theorem DC {h0 hx:ae} {e:TypeId} {bytes:Nat} {v x z:Value} {xs:List Value} {K:Value→ae→Prop} (o:fy h0.length hx e v xs) (hex:EX h0 hx) (hb:(xs.length+1)*bytes≤140737488355328) (hm:xs.length+1≤maxLen)
  (h1:gr x=true) (h2:cW x=[x]) (hk:∀v' bT,EX h0 bT→fy h0.length bT e v' (xs++[x])→K v' bT):
  OH (dK e 1 [z] hx [(0,1,x)]) fun a h2=>OH (dY e 1 bytes h2 v a) K:=by
 have e1:dK e 1 [z] hx [(0,1,x)]=some (sl e hx.length 0 1,hx++[.arr e [x]]):=by
  simp [dK,rQ,gY,h1,h2,setAt]
 rw [e1]
 simp only [aA]
 have e2:lh (hx++[.arr e [x]]) 1 (sl e hx.length 0 1)=some [x]:=by simp [lh,sl,aP]
 have e3:qq (sl e hx.length 0 1)=some 1:=rfl
 rcases o with ⟨rfl,rfl⟩ | ⟨i,hi,rfl,bX⟩
 ·refine GX (v:=sl e (hx.length+1) 0 1) (h:=hx++[.arr e [x]]++[.arr e [x]]) ?_ (hk _ _ ((hex.push _).push _) (.inr ⟨hx.length+1,by have:=hex.1;omega,rfl,by simp⟩))
  have kR:1*bytes≤140737488355328:=by simpa using hb
  have gp:1≤maxLen:=by simpa using hm
  simp only [dY,e2,e3]
  rw [if_neg (by omega),if_pos ⟨kR,gp⟩]
  simp
 ·have aD:=(bL bX).1
  have hg:(hx++[.arr e [x]])[i]?=some (.arr e xs):=by rw [getElem?_append_left aD];exact bX
  refine GX (v:=sl e (hx.length+1) 0 (xs.length+1)) (h:=(hx++[aj.arr e [x]]).set i aj.dead++[aj.arr e (xs++[x])]) ?_
   (hk _ _ (((hex.push _).set hi _).push _) (.inr ⟨hx.length+1,by have:=hex.1;omega,by simp,?_⟩))
  ·simp only [dY,e2,e3]
   simp only [sl,hg]
   rw [if_pos ⟨trivial,trivial,by simp,hb,hm⟩,if_neg (by omega)]
   simp
  ·rw [List.getElem?_append_right (by simp)]
   simp
theorem yS {b:Nat} {hx:ae} {e:TypeId} {v:Value} {l:List UInt8} (o:fy b hx e v (l.map cv)):sv hx v=some (S l):=by
 have hm:∀l:List UInt8,(l.map cv).mapM DH=some l:=by
  intro l
  induction l with
  | nil=>rfl
  | cons c l ih=>simp [List.mapM_cons,DH,ih]
 rcases o with ⟨rfl,hx⟩ | ⟨i,hi,rfl,bX⟩
 ·have:l=[]:=by simpa using hx
  subst this
  rfl
 ·by_cases hl:l=[]
  ·subst hl
   simp [sv,lh,sl]
  ·have hn:l.length≠0:=by simpa using hl
   have hn':¬(l.map cv).length=0:=by simpa using hl
   have ht:((l.map cv).drop 0).take ((l.map cv).length*1)=l.map cv:=by rw [List.drop_zero,Nat.mul_one,take_length]
   simp only [sv,lh,sl,if_neg hn',aP,bX,bind_some]
   rw [if_pos (by omega),ht,bind_some,hm]
   rfl
structure SS (h:ae) (v:Value) (ls:List (List UInt8)):Prop where
 len:bj v=some (I ls.length)
 get:∀k (hk:k<ls.length),∃i o,bf 1 v (I k)=some (pt i o)∧af false 1 h (pt i o)=some (S ls[k])
theorem SS.mono {h h':ae} {v:Value} {ls:List (List UInt8)} (k:EX h h') (p:SS h v ls):SS h' v ls:=
 ⟨p.len,fun j hj=>let ⟨i,o,a,b⟩:=p.get j hj;⟨i,o,a,EX.load k b⟩⟩
theorem SS.sl {h:ae} {e:TypeId} {i:Nat} {ls:List (List UInt8)} (hc:aP h i=some (ls.map S)):SS h (sl e i 0 ls.length) ls:=by
 refine ⟨rfl,fun k hk=>⟨i,k,?_,?_⟩⟩
 ·have:(0:Int)≤(k:Int)∧(k:Int)<(ls.length:Int):=by omega
  simp [Go.Sim.sl,bf,this]
 ·simp [af,hc,b9,hk]
theorem min2 (a b:Int):yl false [I a,I b]=some (I (min a b)):=by
 simp only [yl,List.foldlM,max2,false_eq_true,if_false]
 have:(if b<a then b else a)=min a b:=by split <;> omega
 rw [this]
 rfl
theorem agJ (a b:Int):yl true [I a,I b]=some (I (max a b)):=by
 simp only [yl,List.foldlM,max2,if_true]
 have:(if b>a then b else a)=max a b:=by split <;> omega
 rw [this]
 rfl
theorem mV {h:ae} {e:TypeId} {xs:List Value} {j:Nat} {v:Value} (hj:xs[j]?=some v):af false 1 (h++[.arr e xs]) (pt h.length j)=some v:=by
 simp [af,aP,b9,hj]
theorem anj {v x:Value} (h:bj v=some x):gr v=true∧cW v=[v]:=by
 unfold bj at h
 split at h
 ·exact ⟨rfl,rfl⟩
 ·cases h
theorem NS.Az {h:ae} {v:Value} {l:List Nat} (p:NS h v .i64 (l.map fun i:Nat=>(i:Int))):bj v=some (I l.length):=by have:=p.len;rwa [length_map] at this
def CX (h h':ae):Prop:=∀d cs,aP h d=some cs→aP h' d=some cs
theorem CX.refl (h:ae):CX h h:=fun _ _ h=>h
theorem CX.load {h h':ae} (k:CX h h') {agg:Bool} {n:Nat} {a v:Value} (hl:af agg n h a=some v):af agg n h' a=some v:=by
 unfold af at hl⊢
 split at hl
 ·rename_i i o
  cases hc:aP h i with
  | none=>rw [hc] at hl;cases hl
  | some xs=>rw [hc] at hl;rw [k _ _ hc];exact hl
 ·cases hl
theorem PS.AJ {h h':ae} {v:Value} {ps:List (Int×Int)} (k:CX h h') (p:PS h v ps):PS h' v ps:=
 ⟨p.len,fun j hj=>let ⟨i,o,a,b,c,d⟩:=p.get j hj;⟨i,o,a,k.load b,k.load c,k.load d⟩⟩
theorem NS.AJ {h h':ae} {v:Value} {k:IntKind} {ns:List Int} (e:CX h h') (p:NS h v k ns):NS h' v k ns:=
 ⟨p.len,fun j hj=>let ⟨i,o,a,b⟩:=p.get j hj;⟨i,o,a,e.load b⟩,p.le⟩
def XM (im:Nat) (h h':ae):Prop:=h.length≤h'.length∧∀d,d<h.length→d≠im→h'[d]?=h[d]?
theorem XM.refl (im:Nat) (h:ae):XM im h h:=⟨le_refl _,fun _ _ _=>rfl⟩
theorem XM.trans {im:Nat} {a b c:ae} (h:XM im a b) (k:XM im b c):XM im a c:=⟨Nat.le_trans h.1 k.1,fun d h1 h2=>(k.2 d (lt_of_lt_of_le h1 h.1) h2).trans (h.2 d h1 h2)⟩
theorem XM.ex {im:Nat} {a b:ae} (h:EX a b):XM im a b:=⟨h.1,fun d h1 _=>h.2 d h1⟩
theorem XM.set {im:Nat} {a b:ae} (h:XM im a b) (o:aj):XM im a (b.set im o):=⟨by simpa using h.1,fun d h1 h2=>by rw [List.getElem?_set_ne (by omega)];exact h.2 d h1 h2⟩
theorem XM.get {im:Nat} {a b:ae} (h:XM im a b) {d:Nat} {o:aj} (hd:d≠im) (hg:a[d]?=some o):b[d]?=some o:=by
 rw [h.2 d (bL hg).1 hd];exact hg
theorem sC {h:ae} {d:Nat} {v:Value} (hc:aP h d=some [v]):af false 1 h (pt d 0)=some v:=by
 simp [af,hc,b9]
@[simp] theorem eD (a b : Value) : (#[a, b] : Array Value)[0]? = some a := rfl
@[simp] theorem eI (a b : Value) : (#[a, b] : Array Value)[1]? = some b := rfl
theorem bn {h:ae} {o:aj}:(h++[o])[h.length]?=some o:=by simp
theorem aFk (xs:List Value) (o:Nat) (v:Value) (ho:o<xs.length):setAt xs o [v]=xs.set o v:=by
 unfold setAt
 rw [List.set_eq_take_append_cons_drop,if_pos ho]
 simp
theorem oS {h:ae} {i o:Nat} {e:TypeId} {xs:List Value} {v:Value} (hg:h[i]?=some (.arr e xs)) (ho:o<xs.length) (h1:gr v=true) (h2:cW v=[v]):aF 1 h (pt i o) v=some (undef,h.set i (.arr e (xs.set o v))):=by
 simp only [aF,q9,hg,h1,h2,aFk _ _ _ ho]
 rw [if_pos ⟨trivial,rfl,by omega⟩]
 rfl
theorem fy.one {b:Nat} {hx:ae} {e:TypeId} {v:Value} {xs:List Value} (o:fy b hx e v xs):gr v=true∧cW v=[v]:=by
 rcases o with ⟨rfl,_⟩ | ⟨i,_,rfl,_⟩ <;> exact ⟨rfl,rfl⟩
theorem G6 {b:Nat} {hx:ae} {e:TypeId} {bytes:Nat} {v x z:Value} {xs:List Value} {K:Value→ae→Prop} (o:fy b hx e v xs) (hb:(xs.length+1)*bytes≤140737488355328) (hm:xs.length+1≤maxLen)
  (h1:gr x=true) (h2:cW x=[x]) (hk:∀h1 bT,h1=hx++[.arr e [x]]→bT.length=hx.length+2→(∀d,d<hx.length→(∀n,v≠sl e d 0 n)→bT[d]?=hx[d]?)→bT[hx.length+1]?=some (.arr e (xs++[x]))→OH (some (sl e (hx.length+1) 0 (xs.length+1),bT)) K):
  OH (dK e 1 [z] hx [(0,1,x)]) fun a h2=>OH (dY e 1 bytes h2 v a) K:=by
 have e1:dK e 1 [z] hx [(0,1,x)]=some (sl e hx.length 0 1,hx++[.arr e [x]]):=by
  simp [dK,rQ,gY,h1,h2,setAt]
 rw [e1]
 simp only [aA]
 have e2:lh (hx++[.arr e [x]]) 1 (sl e hx.length 0 1)=some [x]:=by simp [lh,sl,aP]
 have e3:qq (sl e hx.length 0 1)=some 1:=rfl
 rcases o with ⟨rfl,rfl⟩ | ⟨i,hi,rfl,bX⟩
 ·have kR:1*bytes≤140737488355328:=by simpa using hb
  have gp:1≤maxLen:=by simpa using hm
  have e4:dY e 1 bytes (hx++[.arr e [x]]) (.slice none 0 0) (sl e hx.length 0 1)=some (sl e (hx.length+1) 0 1,hx++[.arr e [x]]++[.arr e [x]]):=by
   simp only [dY,e2,e3]
   rw [if_neg (by omega),if_pos ⟨kR,gp⟩]
   simp
  rw [e4]
  refine hk _ _ rfl (by simp) (fun d hd _=>by rw [getElem?_append_left (by simp;omega),getElem?_append_left hd]) (by rw [List.getElem?_append_right (by simp)];simp)
 ·have aD:=(bL bX).1
  have hg:(hx++[.arr e [x]])[i]?=some (.arr e xs):=by rw [getElem?_append_left aD];exact bX
  have e4:dY e 1 bytes (hx++[.arr e [x]]) (sl e i 0 xs.length) (sl e hx.length 0 1)=some (sl e (hx.length+1) 0 (xs.length+1),(hx++[aj.arr e [x]]).set i aj.dead++[aj.arr e (xs++[x])]):=by
   simp only [dY,e2,e3]
   simp only [sl,hg]
   rw [if_pos ⟨trivial,trivial,by simp,hb,hm⟩,if_neg (by omega)]
   simp
  rw [e4]
  refine hk _ _ rfl (by simp) (fun d hd bp=>?_) (by rw [List.getElem?_append_right (by simp)];simp)
  have nS:i≠d:=by rintro rfl;exact bp _ rfl
  rw [getElem?_append_left (by simp;omega),List.getElem?_set_ne nS,getElem?_append_left hd]
theorem Wk {e e':TypeId} {i i' o o' n n':Nat} (h:sl e i o n=sl e' i' o' n'):i=i'∧n=n':=by
 unfold sl at h
 injection h with h1 h2
 injection h1 with h1
 injection h1 with h1
 exact ⟨h1,h2⟩
theorem fy.ep {b:Nat} {g g':ae} {e:TypeId} {v:Value} {xs:List Value} (o:fy b g e v xs) (h:∀d n,v=sl e d 0 n→b≤d→g'[d]?=g[d]?):fy b g' e v xs:=by
 rcases o with ⟨h1,h2⟩ | ⟨i,h1,h2,h3⟩
 ·exact .inl ⟨h1,h2⟩
 ·exact .inr ⟨i,h1,h2,by rw [h i _ h2 h1];exact h3⟩
theorem fy.lt {b:Nat} {g:ae} {e:TypeId} {v:Value} {xs:List Value} {d n:Nat} (o:fy b g e v xs) (h:v=sl e d 0 n):b≤d∧d<g.length∧g[d]?=some (.arr e xs):=by
 rcases o with ⟨h1,_⟩ | ⟨i,h1,h2,h3⟩
 ·rw [h1] at h;cases h
 ·rw [h2] at h
  obtain ⟨rfl,_⟩:=Wk h
  exact ⟨h1,(bL h3).1,h3⟩
theorem lP {e:TypeId} {id n j:Nat} (hj:j<n):bf 1 (sl e id 0 n) (I j)=some (pt id j):=by
 have:(0:Int)≤(j:Int)∧(j:Int)<(n:Int):=by omega
 simp [sl,bf,this]
theorem ck {h:ae} {i:Nat} {o o':aj} (hg:h[i]?=some o'):(h.set i o)[i]?=some o:=by
 rw [List.getElem?_set_self (bL hg).1]
theorem DV {P:Program} {F:FuncId} {cap:Array Value} {args:List Value} {h:ae} {K:Value→ae→Prop} (hF:pP P F=true) (hc:ak P F (args++cap.toList) h K):vE P (.func (.func F) #[] cap) args h K:=by
 rw [vD] at hc
 exact ⟨⟨hF,by simpa using hc⟩⟩
theorem CX.trans {a b c:ae} (h:CX a b) (k:CX b c):CX a c:=fun d cs hd=>k d cs (h d cs hd)
theorem CX.ex {a b:ae} (h:EX a b):CX a b:=fun _ _ hd=>h.cells hd
theorem CX.mo {g:ae} {im mJ pR:Nat} {k k':gf} {es kB:List (Nat×Value×Value)} (hg:g[im]?=some (.cU k mJ es)):CX g (g.set im (.cU k' pR kB)):=by
 intro d cs hd
 by_cases e:d=im
 ·subst e;simp [aP,hg] at hd
 ·unfold aP at hd⊢
  rw [List.getElem?_set_ne (fun x=>e x.symm)]
  exact hd
end
section
theorem XM.cx {im:Nat} {a b:ae} (h:XM im a b) {kd:IntKind} {es:List (Int×Value)} (hm:a[im]?=some (.fm kd es)):CX a b:=by
 intro d cs hc
 have hd:d≠im:=by
  rintro rfl
  simp [aP,hm] at hc
 have hl:d<a.length:=by
  apply byContradiction
  intro cJ
  rw [aP,List.getElem?_eq_none (by omega)] at hc
  cases hc
 simpa [aP,h.2 d hl hd] using hc
theorem XM.Gc {im:Nat} {a h h':ae} (k:EX a h) (iY:a.length≤im) (x:XM im h h'):EX a h':=
 ⟨Nat.le_trans k.1 x.1,fun d hd=>by rw [x.2 d (lt_of_lt_of_le hd k.1) (by omega)];exact k.2 d hd⟩
def IS (h:ae) (e:TypeId) (aY:Nat) (v:Value) (cs:List Value) (n:Nat):Prop:=
 cs.length=n*aY∧((v=.slice none 0 0∧n=0)∨∃i,v=sl e i 0 n∧(n=0∨aP h i=some cs))
theorem IS.mono {h h':ae} {e:TypeId} {aY:Nat} {v:Value} {cs:List Value} {n:Nat} (k:EX h h') (p:IS h e aY v cs n):IS h' e aY v cs n:=
 ⟨p.1,p.2.imp id fun ⟨i,a,b⟩=>⟨i,a,b.imp id fun b=>k.cells b⟩⟩
theorem IS.len {h:ae} {e:TypeId} {aY:Nat} {v:Value} {cs:List Value} {n:Nat} (p:IS h e aY v cs n):bj v=some (I n):=by
 rcases p.2 with ⟨rfl,rfl⟩ | ⟨i,rfl,_⟩ <;> rfl
theorem IS.part {h:ae} {e:TypeId} {aY:Nat} {v:Value} {cs:List Value} {n m:Nat} (p:IS h e aY v cs n) (hm:m≤n):
  ∃v',mT e aY v none (some (I m))=some v'∧lh h aY v'=some (cs.take (m*aY))∧qq v'=some m:=by
 obtain ⟨hl,hv⟩:=p
 rcases hv with ⟨rfl,rfl⟩ | ⟨i,rfl,hc⟩
 ·have:m=0:=by omega
  subst this
  exact ⟨.slice none 0 0,rfl,by simp [lh],rfl⟩
 ·refine ⟨sl e i 0 m,?_,?_,rfl⟩
  ·have h1:(0:Int)≤(m:Int):=by omega
   simp [mT,sl,sw,tJ,h1,hm]
  ·simp only [lh,sl]
   by_cases h0:m=0
   ·rw [if_pos h0,h0];simp
   ·have hc:=hc.resolve_left (by omega)
    have hle:m*aY≤n*aY:=Nat.mul_le_mul_right _ hm
    rw [if_neg h0,hc,bind_some,if_pos (by omega)]
    simp
def Gy (h:ae) (e:TypeId) (v:Value) (ps:List (Int×Int)):Prop:=IS h e 2 v (sE ps) ps.length
theorem Gy.ps {h:ae} {e:TypeId} {v:Value} {ps:List (Int×Int)} (p:Gy h e v ps):PS h v ps:=by
 rcases p.2 with ⟨rfl,h0⟩ | ⟨i,rfl,hc⟩
 ·have:ps=[]:=List.length_eq_zero_iff.1 h0
  subst this
  exact PS.nil h
 ·by_cases h0:ps.length=0
  ·have:ps=[]:=List.length_eq_zero_iff.1 h0
   subst this
   exact ⟨rfl,fun k hk=>by simp at hk⟩
  ·exact PS.sl (hc.resolve_left h0)
def XR (h:ae) (e:TypeId) (k:IntKind) (v:Value) (ns:List Int):Prop:=IS h e 1 v (ns.map (Value.int k)) ns.length
theorem XR.ns {h:ae} {e:TypeId} {k:IntKind} {v:Value} {ns:List Int} (p:XR h e k v ns) (hl:ns.length≤maxLen):NS h v k ns:=by
 rcases p.2 with ⟨rfl,h0⟩ | ⟨i,rfl,hc⟩
 ·have:ns=[]:=List.length_eq_zero_iff.1 h0
  subst this
  exact NS.nil h k
 ·exact NS.sl (hc.imp (fun h=>List.length_eq_zero_iff.1 h) id) hl
theorem PS.arr {h:ae} {e:TypeId} {i:Nat} {ps:List (Int×Int)} (hg:h[i]?=some (.arr e (sE ps))):PS h (Go.Sim.sl e i 0 ps.length) ps:=PS.sl (by simp [aP,hg])
theorem NS.arr {h:ae} {e:TypeId} {i:Nat} {k:IntKind} {ns:List Int} (hg:h[i]?=some (.arr e (ns.map (Value.int k)))) (hl:ns.length≤maxLen):NS h (Go.Sim.sl e i 0 ns.length) k ns:=NS.sl (.inr (by simp [aP,hg])) hl
end
section
abbrev Gw:=Option (Exit×(Nat→Value)×ae)
abbrev lF:=Fn→List Value→ae→Option (Value×ae)
def Md:Value→Value→Bool
 | .int k a,.int k' b=>decide (k=k')&&decide (a=b)
 | .bool a,.bool b=>a==b
 | .string s,.string t=>decide (bytes s=bytes t)
 | .pointer (some ⟨i,o,none⟩),.pointer (some ⟨j,p,none⟩)=>Nat.beq i j&&Nat.beq o p
 | .slice none a b,.slice none c d=>Nat.beq a c&&Nat.beq b d
 | .slice (some ⟨i,o,some e⟩) a b,.slice (some ⟨j,p,some e'⟩) c d=>Nat.beq i j&&Nat.beq o p&&Nat.beq e e'&&Nat.beq a c&&Nat.beq b d
 | _,_=>false
theorem anK {a b:Value} (h:Md a b=true):a=b:=by
 unfold Md at h
 split at h
 ·simp at h;rw [h.1,h.2]
 ·simp at h;rw [h]
 ·rename_i s t
  simp at h
  have:=Fq s
  rw [h,Fq] at this
  rw [this]
 ·simp only [and_eq_true] at h
  rw [eq_of_beq_eq_true h.1,eq_of_beq_eq_true h.2]
 ·simp only [and_eq_true] at h
  rw [eq_of_beq_eq_true h.1,eq_of_beq_eq_true h.2]
 ·simp only [and_eq_true] at h
  obtain ⟨⟨⟨⟨h1,h2⟩,h3⟩,h4⟩,h5⟩:=h
  rw [eq_of_beq_eq_true h1,eq_of_beq_eq_true h2,eq_of_beq_eq_true h3,eq_of_beq_eq_true h4,eq_of_beq_eq_true h5]
 ·cases h
def yA:List Value→List Value→Bool
 | [],[]=>true
 | x::xs,y::ys=>Md x y&&yA xs ys
 | _,_=>false
theorem C2:∀{xs ys:List Value},yA xs ys=true→xs=ys
 | [],[],_=>rfl
 | x::xs,y::ys,h=>by
  simp only [yA,and_eq_true] at h
  rw [anK h.1,C2 h.2]
 | [],_::_,h=>by cases h
 | _::_,[],h=>by cases h
def Mc:Value→Value→Bool
 | .agg xs,.agg ys=>yA xs.toList ys.toList
 | a,b=>Md a b
theorem anL {a b:Value} (h:Mc a b=true):a=b:=by
 unfold Mc at h
 split at h
 ·rw [Array.ext' (C2 h)]
 ·exact anK h
def uT (P:Program) (call:lF) (io:iz) (f:Nat→Value) (h:ae):Option (Value×ae):=
 match io with
 | .p o=>match jK o (ev f) with | some v=>some (v,h) | none=>none
 | .l o=>match fR o (ev f) h with | some v=>some (v,h) | none=>none
 | .e o=>gw o (ev f) h
 | .call g args=>call (.func g) (args.map (ev f)) h
 | .lG x args=>
  match ev f x with
  | .func (.func g) first cap=>if pP P g=true then call (.func g) (first.toList++args.map (ev f)++cap.toList) h else none
  | .func (.yield i) first cap=>if first.size=0∧cap.size=0 then call (.yield i) (args.map (ev f)) h else none
  | _=>none
structure sR (P:Program) (call:lF):Prop where
 fn:∀F args h v h',call (.func F) args h=some (v,h')→xk P F args h v h'
 yi:∀i args h v h',call (.yield i) args h=some (v,h')→MN P i args h v h'
section
variable {P : Program} {call : lF} (HC : sR P call)
include HC
theorem FB {io:iz} {f:Nat→Value} {h h':ae} {v:Value} {K:Value→ae→Prop} (he:uT P call io f h=some (v,h')) (hk:K v h'):dm P io f h K:=by
 cases io with
 | p o=>
  simp only [uT] at he
  split at he
  ·rename_i u hu
   simp at he
   obtain ⟨rfl,rfl⟩:=he
   simp [dm,fS,hu,hk]
  ·cases he
 | l o=>
  simp only [uT] at he
  split at he
  ·rename_i u hu
   simp at he
   obtain ⟨rfl,rfl⟩:=he
   simp [dm,fS,hu,hk]
  ·cases he
 | e o=>
  simp only [uT] at he
  simp [dm,nY,he,hk]
 | call g args=>exact ⟨v,h',HC.fn _ _ _ _ _ he,hk⟩
 | lG x args=>
  simp only [uT] at he
  simp only [dm,uf]
  split at he
  ·rename_i g first cap hx
   rw [hx]
   split at he
   ·rename_i nt
    exact ⟨nt,v,h',HC.fn _ _ _ _ _ he,hk⟩
   ·cases he
  ·rename_i i first cap hx
   rw [hx]
   split at he
   ·rename_i hs
    exact ⟨⟨Array.eq_empty_of_size_eq_zero hs.1,Array.eq_empty_of_size_eq_zero hs.2⟩,v,h',HC.yi _ _ _ _ _ he,hk⟩
   ·cases he
  ·cases he
end
def BU (P:Program) (call:lF):List jA→(Nat→Value)→ae→Option ((Nat→Value)×ae)
 | [],f,h=>some (f,h)
 | o::os,f,h=>match uT P call o.op f h with | some (v,h')=>BU P call os (dO f o.dst v) h' | none=>none
def TY (P:Program) (call:lF) (g:Option (Nat×Bool)) (l:List jA) (f:Nat→Value) (h:ae):Option ((Nat→Value)×ae):=
 match g with
 | none=>BU P call l f h
 | some (s,b)=>match f s with
  | .bool c=>if (c==b)=true then BU P call l f h else some (C0 l f,h)
  | .complex _ _ _=>none
  | _=>some (C0 l f,h)
def FU (pre:Nat) (lo:pK) (f:Nat→Value) (v:Value):List (Nat×ae)→Bool
 | []=>true
 | (e,H)::r=>if pre.testBit e=true then FU pre lo f v r else (match fR lo (ev f) H with | some u=>Mc u v | none=>false)&&FU pre lo f v r
def zk (pre:Nat) (H:ae):fh→Bool
 | []=>true
 | (j,lo,f,v)::r=>if pre.testBit j=true then zk pre H r else (match fR lo (ev f) H with | some u=>Mc u v | none=>false)&&zk pre H r
theorem Vq {pre:Nat} {lo:pK} {f:Nat→Value} {v:Value}:∀{l:List (Nat×ae)},FU pre lo f v l=true→xz pre lo f v l
 | [],_=>trivial
 | (e,H)::r,h=>by
  simp only [FU] at h
  simp only [xz]
  split at h
  ·rename_i hb;rw [if_pos hb];exact Vq h
  ·rename_i hb
   rw [if_neg hb]
   simp only [and_eq_true] at h
   refine ⟨?_,Vq h.2⟩
   have h1:=h.1
   split at h1
   ·rename_i u hu;rw [hu,anL h1]
   ·cases h1
theorem zl {pre:Nat} {H:ae}:∀{l:fh},zk pre H l=true→lR pre H l
 | [],_=>trivial
 | (j,lo,f,v)::r,h=>by
  simp only [zk] at h
  simp only [lR]
  split at h
  ·rename_i hb;rw [if_pos hb];exact zl h
  ·rename_i hb
   rw [if_neg hb]
   simp only [and_eq_true] at h
   refine ⟨?_,zl h.2⟩
   have h1:=h.1
   split at h1
   ·rename_i u hu;rw [hu,anL h1]
   ·cases h1
abbrev XP:=Option (List (Nat×ae)×fh×(Nat→Value)×ae)
def vU (P:Program) (call:lF):List ko→Nat→List (Nat×ae)→fh→(Nat→Value)→ae→XP
 | [],_,aN,aI,f,h=>some (aN,aI,f,h)
 | o::os,j,aN,aI,f,h=>
  match uT P call o.op f h with
  | some (v,h')=>
   match o.op with
   | .p _=>vU P call os (j+1) aN aI (dO f o.dst v) h'
   | .l lo=>if FU o.pre lo f v aN=true then vU P call os (j+1) aN (aI++[(j,lo,f,v)]) (dO f o.dst v) h' else none
   | .e (.fl _)=>
    match eC h' v with
    | some u=>if zk o.pre h' aI=true then vU P call os (j+1) (aN++[(j,h)]) (aI++[(j,.obj (.const v),f,u)]) (dO f o.dst v) h' else none
    | none=>none
   | _=>if zk o.pre h' aI=true then vU P call os (j+1) (aN++[(j,h)]) aI (dO f o.dst v) h' else none
  | none=>none
def BR:List ko→Nat→List (Nat×ae)→fh→(Nat→Value)→ae→XP
 | [],_,aN,aI,f,h=>some (aN,aI,f,h)
 | o::os,j,aN,aI,f,h=>
  match o.op.dN with
  | false=>BR os (j+1) aN aI (dO f o.dst undef) h
  | true=>if zk o.pre h aI=true then BR os (j+1) (aN++[(j,h)]) aI (dO f o.dst undef) h else none
def zp (P:Program) (call:lF):List (Option (Nat×Bool)×List ko)→Nat→List (Nat×ae)→fh→(Nat→Value)→ae→Option ((Nat→Value)×ae)
 | [],_,_,_,f,h=>some (f,h)
 | (none,l)::gs,j,aN,aI,f,h=>
  match vU P call l j aN aI f h with
  | some (aN,aI,f,h)=>zp P call gs (j+l.length) aN aI f h
  | none=>none
 | (some (s,b),l)::gs,j,aN,aI,f,h=>
  match f s with
  | .bool c=>
   match (if (c==b)=true then vU P call l j aN aI f h else BR l j aN aI f h) with
   | some (aN,aI,f,h)=>zp P call gs (j+l.length) aN aI f h
   | none=>none
  | _=>none
section
variable {P : Program} {call : lF} (HC : sR P call)
include HC in
theorem Ri:∀{l:List jA} {f f':Nat→Value} {h h':ae} {K:(Nat→Value)→ae→Prop},BU P call l f h=some (f',h')→K f' h'→xK P l K f h
 | [],f,f',h,h',K,he,hk=>by simp [BU] at he;obtain ⟨rfl,rfl⟩:=he;exact hk
 | o::os,f,f',h,h',K,he,hk=>by
  simp only [BU] at he
  split at he
  ·rename_i v h1 ho
   exact FB HC ho (Ri he hk)
  ·cases he
include HC in
theorem aAI {g:Option (Nat×Bool)} {l:List jA} {f f':Nat→Value} {h h':ae} {K:(Nat→Value)→ae→Prop} (he:TY P call g l f h=some (f',h')) (hk:K f' h'):tM P g l K f h:=by
 cases g with
 | none=>exact Ri HC he hk
 | some sb=>
  obtain ⟨s,b⟩:=sb
  simp only [TY] at he
  simp only [tM,kP]
  split at he
  ·rename_i c hc
   rw [hc]
   simp only
   split at he
   ·rename_i hb;rw [if_pos hb];exact Ri HC he hk
   ·rename_i hb;rw [if_neg hb];simp at he;obtain ⟨rfl,rfl⟩:=he;exact hk
  ·cases he
  ·rename_i h1 h2
   simp at he
   obtain ⟨rfl,rfl⟩:=he
   split
   ·rename_i c hc;exact absurd hc (h1 c)
   ·rename_i a b c hc;exact absurd hc (h2 a b c)
   ·exact hk
include HC in
theorem xJ:∀{l:List ko} {j:Nat} {aN pY:List (Nat×ae)} {aI pF:fh} {f f':Nat→Value} {h h':ae} {K:List (Nat×ae)→fh→(Nat→Value)→ae→Prop},
  vU P call l j aN aI f h=some (pY,pF,f',h')→K pY pF f' h'→pj P l j aN aI K f h
 | [],j,aN,pY,aI,pF,f,f',h,h',K,he,hk=>by simp [vU] at he;obtain ⟨rfl,rfl,rfl,rfl⟩:=he;exact hk
 | o::os,j,aN,pY,aI,pF,f,f',h,h',K,he,hk=>by
  simp only [vU] at he
  simp only [pj]
  split at he
  ·rename_i v h1 ho
   cases de:o.op with
   | p po=>
    rw [de] at ho he
    simp only at he
    have:=FB (K:=fun v h'=>pj P os (j+1) aN aI K (dO f o.dst v) h') HC ho (xJ he hk)
    simp only [lH]
    simp only [dm] at this
    simp only [uT] at ho
    split at ho
    ·rename_i u hu
     simp at ho
     obtain ⟨rfl,rfl⟩:=ho
     exact this
    ·cases ho
   | l lo=>
    rw [de] at ho he
    simp only at he
    split at he
    ·rename_i hp
     simp only [uT] at ho
     split at ho
     ·rename_i u hu
      simp at ho
      obtain ⟨rfl,rfl⟩:=ho
      simp only [lH,fS,hu]
      exact ⟨Vq hp,xJ he hk⟩
     ·cases ho
    ·cases he
   | e eo=>
    cases eo with
    | fl a=>
     rw [de] at ho he
     simp only at he
     split at he
     ·rename_i u hu
      split at he
      ·rename_i hp
       simp only [uT] at ho
       simp only [lH,ho,nY,hu,fS]
       exact ⟨zl hp,xJ he hk⟩
      ·cases he
     ·cases he
    | _=>
    rw [de] at ho he
    simp only at he
    split at he
    ·rename_i hp
     exact FB (io:=.e _) (K:=fun v h'=>lR o.pre h' aI∧pj P os (j+1) (aN++[(j,h)]) aI K (dO f o.dst v) h') HC ho ⟨zl hp,xJ he hk⟩
    ·cases he
   | call g args=>
    rw [de] at ho he
    simp only at he
    split at he
    ·rename_i hp
     exact FB (io:=.call g args) (K:=fun v h'=>lR o.pre h' aI∧pj P os (j+1) (aN++[(j,h)]) aI K (dO f o.dst v) h') HC ho ⟨zl hp,xJ he hk⟩
    ·cases he
   | lG x args=>
    rw [de] at ho he
    simp only at he
    split at he
    ·rename_i hp
     exact FB (io:=.lG x args) (K:=fun v h'=>lR o.pre h' aI∧pj P os (j+1) (aN++[(j,h)]) aI K (dO f o.dst v) h') HC ho ⟨zl hp,xJ he hk⟩
    ·cases he
  ·cases he
theorem Rc:∀{l:List ko} {j:Nat} {aN pY:List (Nat×ae)} {aI pF:fh} {f f':Nat→Value} {h h':ae} {K:List (Nat×ae)→fh→(Nat→Value)→ae→Prop},
  BR l j aN aI f h=some (pY,pF,f',h')→K pY pF f' h'→vV l j aN aI K f h
 | [],j,aN,pY,aI,pF,f,f',h,h',K,he,hk=>by simp [BR] at he;obtain ⟨rfl,rfl,rfl,rfl⟩:=he;exact hk
 | o::os,j,aN,pY,aI,pF,f,f',h,h',K,he,hk=>by
  simp only [BR] at he
  simp only [vV,xF]
  cases ho:o.op.dN with
  | false=>rw [ho] at he;exact Rc he hk
  | true=>
   rw [ho] at he
   simp only at he
   split at he
   ·rename_i hp;exact ⟨zl hp,Rc he hk⟩
   ·cases he
include HC in
theorem Jd:∀{gs:List (Option (Nat×Bool)×List ko)} {j:Nat} {aN:List (Nat×ae)} {aI:fh} {f f':Nat→Value} {h h':ae} {K:(Nat→Value)→ae→Prop},
  zp P call gs j aN aI f h=some (f',h')→K f' h'→oF P gs j aN aI K f h
 | [],j,aN,aI,f,f',h,h',K,he,hk=>by simp [zp] at he;obtain ⟨rfl,rfl⟩:=he;exact hk
 | (none,l)::gs,j,aN,aI,f,f',h,h',K,he,hk=>by
  simp only [zp] at he
  simp only [oF]
  split at he
  ·rename_i hs ls f1 h1 hr
   exact xJ HC hr (Jd he hk)
  ·cases he
 | (some (s,b),l)::gs,j,aN,aI,f,f',h,h',K,he,hk=>by
  simp only [zp] at he
  simp only [oF,kP]
  split at he
  ·rename_i c hc
   rw [hc]
   simp only
   split at he
   ·rename_i hs ls f1 h1 hr
    split at hr
    ·rename_i hb;rw [if_pos hb];exact xJ HC hr (Jd he hk)
    ·rename_i hb;rw [if_neg hb];exact Rc hr (Jd he hk)
   ·cases he
  ·cases he
end
def AD (body:(Nat→Value)→ae→Gw) (ls:List Nat):Nat→List Value→ae→Gw
 | 0,_,_=>none
 | n+1,xs,h=>match body (kF ls xs) h with
  | some (.normal,f',h')=>AD body ls n (ls.map f') h'
  | r=>r
def S4 (h:ae) (i:Nat):Bool:=match h[i]? with | some (.loop _ _ _)=>true | _=>false
def JZ (h:ae) (i:Nat):Bool:=match h[i]? with | some .dead=>true | _=>false
noncomputable def lU (P:Program) (call:lF) (n:Nat) (c:fx):(Nat→Value)→ae→Gw:=
 fx.rec (motive:=fun _=>(Nat→Value)→ae→Gw)
  (fun f h=>some (.normal,f,h))
  (fun l f h=>match zp P call l 0 [] [] f h with | some (f',h')=>some (.normal,f',h') | none=>none)
  (fun g l f h=>match TY P call g l f h with | some (f',h')=>some (.normal,f',h') | none=>none)
  (fun _ _ ea eb f h=>match ea f h with | some (.normal,f',h')=>eb f' h' | r=>r)
  (fun ls _ ec f h=>ec (kF ls (ls.map f)) h)
  (fun c _ _ ea eb f h=>match ev f c with | .bool true=>ea f h | .bool false=>eb f h | _=>none)
  (fun id _ ec f h=>match ec f h with | some (.exit i,f',h')=>if i=id then some (.normal,f',h') else some (.exit i,f',h') | r=>r)
  (fun ks ls _ ec f h=>match ks with | []=>AD ec ls n (ls.map f) h | _=>none)
  (fun id f h=>some (.exit id,f,h))
  (fun f h=>some (.ret,f,h))
  (fun g ls c f h=>match ev f g with
   | .func (.func F) first cap=>
    if pP P F=true then
     match call (.func F) (first.toList++[.func (.yield h.length) #[] #[]]++cap.toList) (h++[.loop c ls (ls.map f)]) with
     | some (_,h')=>if S4 h' h.length=true then some (.normal,f,h'.set h.length .dead) else none
     | none=>none
    else none
   | _=>none) c
theorem azV {p:Nat→Prop}:∀n,p n→∃m,p m∧∀k,p k→m≤k:=by
 intro n
 induction n using Nat.strongRecOn with
 | _ n ih=>
  intro hn
  by_cases h:∃m,m<n∧p m
  ·obtain ⟨m,h1,h2⟩:=h;exact ih m h1 h2
  ·exact ⟨n,hn,fun k hk=>Nat.le_of_not_lt fun aD=>h ⟨k,aD,hk⟩⟩
theorem ayY {h:ae} {i:Nat} (hl:S4 h i=true):∃c ls vs,h[i]?=some (.loop c ls vs):=by
 unfold S4 at hl
 split at hl
 ·rename_i c ls vs hh;exact ⟨c,ls,vs,hh⟩
 ·cases hl
theorem afW {h:ae} {i:Nat} (hl:JZ h i=true):h[i]?=some .dead:=by
 unfold JZ at hl
 split at hl
 ·assumption
 ·cases hl
theorem QN {P:Program} {call:lF} (HC:sR P call) {n:Nat} {c:fx}:∀{f f':Nat→Value} {h h':ae} {e:Exit} {K:ar},lU P call n c f h=some (e,f',h')→K e f' h'→jv P c K f h:=by
 induction c with
 | skip=>intro f f' h h' e K he hk;simp [lU] at he;obtain ⟨rfl,rfl,rfl⟩:=he;exact hk
 | IM l=>
  intro f f' h h' e K he hk
  simp only [lU] at he
  split at he
  ·rename_i f1 h1 hg
   simp at he
   obtain ⟨rfl,rfl,rfl⟩:=he
   exact Jd HC hg hk
  ·cases he
 | ops g l=>
  intro f f' h h' e K he hk
  simp only [lU] at he
  split at he
  ·rename_i f1 h1 hg
   simp at he
   obtain ⟨rfl,rfl,rfl⟩:=he
   exact aAI HC hg hk
  ·cases he
 | seq a b sB tD=>
  intro f f' h h' e K he hk
  have fV:(match lU P call n a f h with | some (.normal,f',h')=>lU P call n b f' h' | r=>r)=some (e,f',h'):=he
  show jv P a (aG (jv P b K) K) f h
  split at fV
  ·rename_i f1 h1 h2
   exact sB h2 (tD fV hk)
  ·rename_i h1
   refine sB fV ?_
   cases e <;> first | exact hk | exact absurd fV (h1 _ _)
 | cut ls c ih=>intro f f' h h' e K he hk;exact ih (K:=K) he hk
 | cond c a b sB tD=>
  intro f f' h h' e K he hk
  have fV:(match ev f c with | .bool true=>lU P call n a f h | .bool false=>lU P call n b f h | _=>none)=some (e,f',h'):=he
  rw [af1]
  split at fV
  ·rename_i hc;rw [hc];exact sB fV hk
  ·rename_i hc;rw [hc];exact tD fV hk
  ·cases fV
 | block id c ih=>
  intro f f' h h' e K he hk
  have fV:(match lU P call n c f h with | some (.exit i,f',h')=>if i=id then some (.normal,f',h') else some (.exit i,f',h') | r=>r)=some (e,f',h'):=he
  show jv P c (bO id K) f h
  split at fV
  ·rename_i i f1 h1 h2
   refine ih h2 ?_
   simp only [bO]
   split at fV
   ·rename_i iY;simp at fV;obtain ⟨rfl,rfl,rfl⟩:=fV;rw [if_pos iY];exact hk
   ·rename_i iY;simp at fV;obtain ⟨rfl,rfl,rfl⟩:=fV;rw [if_neg iY];exact hk
  ·rename_i h1
   refine ih fV ?_
   cases e with
   | exit i=>exact absurd fV (h1 _ _ _)
   | _=>exact hk
 | loop ks ls c ih=>
  intro f f' h h' e K he hk
  cases ks with
  | cons k ks=>cases he
  | nil=>
   have fV:AD (lU P call n c) ls n (ls.map f) h=some (e,f',h'):=he
   show AE (ls.map f) h fun L xs hx=>jv P c (aG (fun f' aW=>([]:List Nat).map f'=[].map f∧L (ls.map f') aW) K) (kF ([]++ls) (([]:List Nat).map f++xs)) hx
   let J:List Value→ae→Prop:=fun ys hy=>∃m,AD (lU P call n c) ls m ys hy=some (e,f',h')
   have least:∀ys hy,J ys hy→∃m,AD (lU P call n c) ls m ys hy=some (e,f',h')∧∀k,AD (lU P call n c) ls k ys hy=some (e,f',h')→m≤k:=fun ys hy ⟨m,hm⟩=>azV m hm
   classical
   let μ:List Value→ae→Nat:=fun ys hy=>if hJ:J ys hy then Classical.choose (least ys hy hJ) else 0
   refine ⟨J,μ,⟨n,fV⟩,?_⟩
   intro xs hx hJ
   have Ae:=Classical.choose_spec (least xs hx hJ)
   have hμ:μ xs hx=Classical.choose (least xs hx hJ):=dif_pos hJ
   rw [←hμ] at Ae
   obtain ⟨h1,h2⟩:=Ae
   generalize μ xs hx=m at h1 h2
   cases m with
   | zero=>cases h1
   | succ m=>
    simp only [AD] at h1
    simp only [List.map_nil,List.nil_append]
    split at h1
    ·rename_i f1 g1 hb
     refine ih hb ?_
     refine ⟨trivial,⟨m,h1⟩,?_⟩
     have BY:J (ls.map f1) g1:=⟨m,h1⟩
     have dT:=Classical.choose_spec (least _ _ BY)
     have ayE:μ (ls.map f1) g1=Classical.choose (least _ _ BY):=dif_pos BY
     rw [ayE]
     exact Nat.lt_succ_of_le (dT.2 m h1)
    ·rename_i hn
     refine ih h1 ?_
     cases e with
     | normal=>exact absurd h1 (hn _ _)
     | _=>exact hk
 | exit id=>intro f f' h h' e K he hk;simp [lU] at he;obtain ⟨rfl,rfl,rfl⟩:=he;exact hk
 | ret=>intro f f' h h' e K he hk;simp [lU] at he;obtain ⟨rfl,rfl,rfl⟩:=he;exact hk
 | range g ls c=>
  intro f f' h h' e K he hk
  simp only [lU] at he
  show uW P (ev f g) ls (ls.map f) c h (K .normal f)
  unfold uW
  split at he
  ·rename_i F first cap hg
   rw [hg]
   split at he
   ·rename_i nt
    split at he
    ·rename_i v h1 hc
     split at he
     ·rename_i hl
      simp at he
      obtain ⟨rfl,rfl,rfl⟩:=he
      exact ⟨nt,v,h1,HC.fn _ _ _ _ _ hc,ayY hl,hk⟩
     ·cases he
    ·cases he
   ·cases he
  ·cases he
theorem Lu:∀{rs:List kN} {f:Nat→Value} {h:ae} {vs:List Value} {k:List Value→Prop},pD rs f h=some vs→k vs→wU rs f h k
 | [],f,h,vs,k,he,hk=>by simp [pD] at he;subst he;exact hk
 | .tmp t::rs,f,h,vs,k,he,hk=>by
  simp only [pD,yp] at he
  split at he
  ·rename_i v jS h1 h2
   simp only [Option.some.injEq] at h1 he
   subst h1
   subst he
   exact Lu (rs:=rs) h2 hk
  ·cases he
 | .cell agg n a::rs,f,h,vs,k,he,hk=>by
  simp only [pD,yp] at he
  split at he
  ·rename_i v jS h1 h2
   simp at he
   subst he
   simp only [wU,fS,h1]
   exact Lu h2 hk
  ·cases he
end
end Go.Sim
namespace Go.Proofs.YtelmdbpaoifmoaaGreat
open Go.Sim
section
def evH:FuncId→Hints
 | 11=>[[],[],[],[],[0,3,4],[0,3,4,12],[0,3,4,12,14],[],[],[],[],[],[0,3,4,5,6],[0,3,4,5,6,32],[0,3,4,5,6,32,34],[],[],[],[0,3,4,5],[0,3,4],[3],[]]
 | 12=>[[],[],[],[],[1,7,25],[1,7,25,32],[],[],[],[],[],[],[],[],[]]
 | 13=>[[],[],[],[],[0,3,4],[],[],[],[],[],[0,3,4,5,6],[],[],[],[],[],[0,3,4,5],[0,3,4,5,44],[0,3,4,5,44,51],[],[],[],[],[],[0,3,4,5,7],[],[],[],[0,3,4,5,7,8,82],[0,3,4,5,7,8,82,86],[0,3,4,5,7,8,88],[0,3,4,5,7,8,88,98],[0,3,4,5,7,8,88,98,102],[0,3,4,5,7,8,88,103],[],[0,3,4,5,7],[0,3,4,5],[],[0,3,4],[0,3],[],[3],[]]
 | 14=>[[],[],[],[],[],[],[],[3,4,5,6,8,9,10,11,12,46],[4,5,6,8,9,10,11,12,46,48],[4,5,6,8,9,10,11,12,50],[5,6,8,9,10,11,12,50,52],[5,6,8,9,10,11,12,54],[6,8,9,10,11,12,54,58],[6,8,9,10,11,12,60],[8,9,10,11,12,60,62],[8,9,10,11,12,64],[9,10,11,12,64,66],[9,10,11,12,68],[10,11,12,68,70],[10,11,12,72],[11,12,72,74],[11,12,76],[12,76,78],[12,80],[80,82],[]]
 | 15=>[[],[],[],[],[],[1,2,4,6,7,8,9],[],[],[],[],[],[1,2,4,6,7,8,9],[4,6,7],[]]
 | 16=>[[],[],[0,5,13],[13,16],[]]
 | 17=>[[],[]]
 | 18=>[[],[],[],[],[],[],[]]
 | 19=>[[],[],[],[],[],[],[],[],[],[0,7,9,10,11],[],[],[],[],[],[0,7,9,10,11,12,32,33,34],[],[],[],[],[],[],[9,10],[]]
 | 20=>[[],[]]
 | 21=>[[],[],[],[],[],[],[]]
 | 22=>[[],[],[],[],[0,1,2,3,8,9,10,11],[],[],[],[],[0,1,2,3,8,9,10,11],[0,1,2,3,8,9,10],[],[],[],[],[],[],[0,1,2,3,8,9,10,14,15,16],[],[],[0,1,2,3,8,9,10,14,15,16,17],[],[],[0,1,2,3,8,9,10,14,15,16,17,74],[0,1,2,3,8,9,10,14,15,16,17,74,76],[0,1,2,3,8,9,10,14,15,16,17,74,76,79],[0,1,2,3,8,9,10,14,15,16,17,74,80],[],[],[],[],[],[],[],[0,1,2,3,8,9,10,14,15,16,17,18,19,20,21],[],[],[0,1,2,3,8,9,10,14,15,16,17,21,146],[0,1,2,3,8,9,10,14,15,16,17,21,146,150],[],[0,1,2,3,8,9,10,14,15,16,17],[3,8,9,14],[],[]]
 | 23=>[[],[],[],[],[1,3,4],[],[],[],[3],[]]
 | 24=>[[],[],[]]
 | 25=>[[],[],[],[],[]]
 | 26=>[[],[]]
 | 27=>[[],[]]
 | 28=>[[],[],[]]
 | 29=>[[],[]]
 | 30=>[[],[],[1,2],[]]
 | 31=>[[],[],[],[],[],[],[],[],[8,20,21,22],[],[],[],[],[8],[]]
 | 32=>[[],[],[],[],[],[],[],[],[6,8,20,21,22],[],[],[],[],[8],[]]
 | 33=>[[],[],[],[0,1,5],[],[],[0,1,5,23],[0,1,5,23,30],[],[],[],[0,1],[],[],[0,1,6],[],[],[],[],[],[0,1],[0,1,77],[0,1,77,80],[],[],[],[],[],[],[0,1,7,8],[],[],[],[],[0,1,7,8,9],[],[],[],[0,1,7,8,9],[0,1,7,8],[7],[]]
 | 34=>[[],[],[],[],[0,1,5,6,7],[],[],[],[],[],[0,1,5,6,7,8,9,10,11],[],[],[],[],[],[0,1,5,6,7,8,9,10,11,12,13],[0,1,5,6,7,8,9,10,11,12,13,39],[0,1,5,6,7,8,9,10,11,12,13,39,40],[],[],[0,1,5,6,7,8,9,10,11,13,49],[0,1,5,6,7,8,9,10,11,13,49,57],[],[0,1,5,6,7,8,9,10,11,12],[],[],[],[0,1,5,6,7,8,9,10,11,14,15,70],[0,1,5,6,7,8,9,10,11,14,15,70,77],[],[],[0,1,5,6,7,8,9,10,11],[0,1,5,6,7,8],[],[],[],[0,1,5,6,7,8,16,17],[],[],[],[0,1,5,6,7,8,16,17],[0,1,5,6,7,8,16],[6],[]]
 | 35=>[[],[],[],[],[],[],[0,1,5],[],[],[],[],[],[],[]]
 | 36=>[[],[],[],[],[0,1,6,7,8],[],[],[],[0,1,6,7,8],[6,7],[]]
 | 37=>[[],[],[],[],[0,1,2,3,10,11,12],[0,1,2,3,10,11,12,22],[0,1,2,3,10,11,12,22,25],[],[],[],[1,10,11],[],[1,10,11],[],[],[1,10,11,13],[1,10,11,13,63],[1,10,11,13,63,65],[],[],[],[],[],[],[1,10,11,13],[10,11],[]]
 | 38=>[[],[],[],[0,3],[],[],[],[],[],[],[]]
 | 39=>[[],[],[],[],[0,1,2,7,8],[],[],[0,1,2,7,8,24],[0,1,2,7,8,24,32],[0,1,2,7,8,34],[0,1,2,7,8,34,43],[],[],[],[],[0,2],[]]
 | 40=>[[],[],[],[],[0,1,5,6,7],[],[],[],[],[6],[]]
 | 41=>[[],[],[],[],[],[],[],[],[],[],[],[6,8,25,26,27],[],[],[],[6,8,9,10,25,26,27,34],[6,8,9,10,25,26,27,34,42],[],[],[],[],[6,8],[],[],[],[],[]]
 | 42=>[[],[],[],[],[0,1,5,6,7],[],[],[],[],[],[],[0,1,5,6,7],[6],[]]
 | 43=>[[],[],[],[],[0,4,11,12,13],[],[],[],[],[],[],[],[],[0,4],[0,4,38],[4,38,41],[],[],[],[],[],[4,43,44,45],[],[],[],[4,10,43,44,45,53],[4,10,43,44,45,53,57],[4,10,43,44,45,59],[4,10,43,44,45,59,63],[4,10,43,44,45,65],[4,10,43,44,45,65,69],[4,10,43,44,45,71],[4,10,43,44,45,71,81],[],[],[],[4,10,43,44,45,86],[4,43,44,45,86,91],[],[],[],[4],[]]
 | 44=>[[],[],[],[],[],[1,2,4,6,7,8,9,10],[],[],[],[],[],[1,2,4,6,7,8,9,10,11,52],[1,2,4,6,7,8,9,10,11,52,56],[],[1,2,4,6,7,8,9,10],[4,6,7],[]]
 | 45=>[[],[],[],[],[],[],[1,4],[],[],[],[],[],[],[],[]]
 | 46=>[[],[0,2,10],[10,13],[]]
 | 47=>[[],[],[],[],[0,1,5,6],[],[],[],[],[0,1,5,6],[],[],[0,1,5,6],[],[]]
 | 48=>[[],[],[],[],[],[],[],[]]
 | 49=>[[],[0,1,9],[9,13],[]]
 | 50=>[[],[],[],[],[2,4,5,6],[],[],[],[4,5],[]]
 | 51=>[[],[]]
 | 52=>[[],[]]
 | 53=>[[],[],[],[1,4,5,18],[1,4,5,18,21],[],[],[],[],[4,5],[],[4],[]]
 | 54=>[[],[],[2,3,4],[]]
 | 55=>[[],[],[],[0,2,3],[],[],[],[],[0,2,3,4],[],[2,3],[]]
 | 56=>[[],[]]
 | 57=>[[],[],[],[],[],[],[],[],[0,2,3,5,8,11,31,32,33],[],[],[],[],[0,2,3,5,8,11,31,32,33],[0,2,3,5,8,11],[],[],[],[0,2,3,5,8,11,14,15,50,51,52],[],[],[],[0,2,3,5,8,11,14,15,16,17,50,51,52,61],[0,2,3,5,8,11,14,15,16,17,50,51,52,61,66],[],[],[],[],[],[],[],[],[0,2,3,5,8,11,14,15,21,50,51,52],[0,2,3,5,8,11,14,15,21,50,51,52,119],[0,2,3,5,8,11,14,15,21,50,51,52,119,123],[],[0,2,3,5,8,11,14,15,50,51,52],[3,5,8,14],[],[]]
 | 58=>[[],[],[],[],[2,3,7,8],[],[],[],[],[2,3],[]]
 | 59=>[[],[],[0,1,6,18],[0,1,6,18,20],[0,1,6,22],[0,1,6,22,25],[],[],[],[],[],[],[1,6,7,32,33,34],[],[],[],[1,6,7,9,32,33,34,41],[1,6,7,9,32,33,34,41,44],[1,6,7,9,32,33,34,46],[1,6,7,9,32,33,34,46,49],[1,6,7,9,32,33,34,51],[1,6,7,32,33,34,51,54],[],[],[],[1,6,7],[],[],[6,7,57,58,59],[],[],[],[6,7,11,57,58,59,69],[6,7,11,57,58,59,69,76],[6,7,11,57,58,59,78],[6,7,11,57,58,59,78,83],[],[],[],[],[6,7],[],[],[],[6,7,12,99,100],[],[],[],[],[6,7,12,99,100,102,103],[],[],[],[],[6,7,12,99,100,102,103],[6,7,12,99,100],[7,12],[]]
 | 60=>[[],[],[],[],[],[]]
 | 61=>[[],[]]
 | 62=>[[],[],[],[],[0,5,9,10,11],[],[],[],[],[5],[]]
 | 63=>[[],[0,1,2,11],[11,21],[]]
 | 64=>[[],[]]
 | 65=>[[],[],[],[],[],[3,5,6,11,12,13],[],[],[],[],[],[],[3,5,6,7,9,11,12,13,32],[3,5,6,7,9,11,12,13,32,36],[],[3,5,6,11,12,13],[5],[]]
 | 66=>[[],[],[],[],[],[0,4,5,6,7,8],[0,4,5,6,7,8,22],[0,4,5,6,7,8,22,24],[],[],[],[4,5,6,7],[],[],[],[4,5,6,7,9],[],[],[],[4,5,6,7],[],[],[4,5,6,7,10],[],[],[],[],[4,5],[]]
 | 67=>[[],[],[],[],[],[2,4,5,21],[2,4,5,21,24],[],[2,4,5],[],[],[],[2,4,5,6,7],[],[],[],[2,4,5,6,7],[2,4,5,6],[],[],[],[],[],[],[],[2,5,8,9,10],[2,5,8,10,82],[2,5,8,10,82,84],[2,5,8,10,82,84,88],[2,5,8,10,82,89],[],[],[],[],[2,8,10],[]]
 | 68=>[[],[],[],[2,3,4],[],[],[],[2,4],[]]
 | 69=>[[],[],[],[],[2,3,4,5,6,7,8],[],[],[],[],[],[2,3,4,5,6,7,8,9,10],[],[],[],[],[2,3,4,5,6,7,8,9],[],[2,3,4,5,6,7,8],[2,3,4,5,6,7],[],[3,4,5,12,13,78],[3,4,5,12,13,78,82],[],[],[],[]]
 | 70=>[[],[],[],[],[],[],[],[]]
 | 71=>[[],[],[],[],[2,3,4,5,6],[],[],[],[],[],[2,3,4,5,6,7,8],[2,3,4,5,6,7,8,31],[2,3,4,5,6,7,8,31,33],[],[],[],[],[2,3,4,5,6,8,9],[2,3,4,5,6,7,8],[2,3,4,5,6],[2,3,4,5],[]]
 | 72=>[[],[]]
 | 73=>[[],[],[],[],[0,3,18,19],[],[],[],[],[],[],[0,3,4,18,19,27,28,29],[],[],[],[],[0,3,4,18,19,27,28,29],[0,3,18,19],[0,3],[],[],[],[0,3,7,8],[],[],[],[],[],[0,3,7,8,9,54],[],[],[],[0,3,7,8,9,10,54,64],[0,3,7,8,9,10,54,64,67],[],[],[],[],[0,3,7,8,9,11,12,13,54,89],[0,3,7,8,9,11,12,13,54,89,92],[],[],[0,3,7,8,9],[7],[]]
 | 74=>[[],[],[],[],[0,3,5],[],[],[],[],[0,3,5],[3],[]]
 | 75=>[[],[]]
 | 76=>[[],[],[],[],[0,5,9,10,11],[],[],[],[],[5],[]]
 | 77=>[[],[]]
 | 78=>[[],[],[],[],[4,9,10,11],[],[],[],[],[],[],[],[],[4],[]]
 | 79=>[[],[],[],[],[0,1,5,6],[],[],[],[0,1,5,6],[5],[]]
 | 80=>[[],[],[],[],[4,10,11,12],[],[],[],[],[],[],[],[],[4],[]]
 | 81=>[[],[]]
 | 82=>[[],[]]
 | 83=>[[],[1,6],[6,9],[]]
 | 84=>[[],[1,2,12],[12,19],[]]
 | 85=>[[],[],[],[],[4,5,12,13,14],[],[],[],[],[4,5],[]]
 | 86=>[[],[]]
 | 87=>[[],[2,3,4,7],[2,3,4,7,9],[],[],[],[]]
 | 88=>[[],[2,3,4,7],[2,3,4,7,9],[],[],[],[]]
 | 89=>[[],[],[],[],[],[],[0,3],[],[],[],[],[],[3,4,5,6],[3,4,5,6,20],[3,4,5,6,20,24],[3,4,5,6,20,24,26],[3,4,5,6,20,27],[],[],[],[],[3,4],[3],[],[]]
 | 90=>[[],[1,8],[8,14],[]]
 | 91=>[[],[],[],[0,1,5],[0,1,5,10],[0,1,5,10,14],[],[],[],[],[],[0,1],[]]
 | 92=>[[],[]]
 | 93=>[[],[],[],[],[],[],[],[1,3,4],[],[],[],[],[],[3],[],[3],[],[],[3],[]]
 | 94=>[[],[],[]]
 | 95=>[[],[1,2,6],[1,2,6,10],[],[]]
 | 96=>[[],[]]
 | 97=>[[],[],[],[],[],[],[],[],[],[0,1,2,3,8,9,27,28,29],[],[],[],[],[],[],[0,1,2,3,8,9,12,27,28,29,55],[0,1,2,3,8,9,12,27,28,29,55,58],[],[0,1,2,3,8,9,27,28,29],[0,1,8],[],[]]
 | 98=>[[],[]]
 | 99=>[[],[0,2,11],[0,2,11,14],[0,2,16],[0,2,16,20],[0,2,16,20,23],[0,2,16,24],[],[],[],[],[],[],[0,2,4,5],[],[],[],[],[],[0,2,4,5,6,7],[],[],[0,2,4,5,6,7,46],[0,2,4,5,6,7,46,50],[],[],[],[],[0,2,4,5,6],[0,2,4,5],[2,4],[]]
 | 100=>[[],[],[],[1,2,3],[1,2,3,9],[1,2,3,9,16],[],[],[1,2,3],[],[1,2,3,29],[1,2,29,31],[],[]]
 | 101=>[[],[],[],[],[],[],[],[],[],[0,1,5],[],[],[],[],[],[],[],[],[],[]]
 | 102=>[[],[]]
 | 103=>[[],[],[],[],[0,1,5,6,7],[],[],[],[],[0,1,5,7,8],[],[],[0,1,5,6,7,8],[0,1,5,6,7],[5],[]]
 | 104=>[[],[],[],[],[0,1,5,6,7],[0,1,5,6,7,14],[0,1,5,6,7,14,18],[0,1,5,6,7,20],[0,1,5,6,7,20,22],[],[],[],[],[0,1,5,7,8],[],[0,1,5,7,8],[0,1,5,6,7],[5],[]]
 | 105=>[[],[],[],[0,2,3],[]]
 | 106=>[[],[],[2,3,4],[],[],[],[],[],[],[]]
 | 107=>[[],[]]
 | 108=>[[],[],[],[],[],[],[],[2,6,8,9,10,11,38],[2,6,8,9,10,11,38,42],[2,6,8,9,10,11,12],[2,6,8,9,11,12,46],[2,6,8,9,11,46,48],[2,6,8,9,11,50],[2,6,8,9,11,50,52],[2,6,8,9,11,50,52,55],[2,6,8,9,11,50,56],[],[],[],[],[]]
 | 109=>[[],[],[],[],[],[],[]]
 | 110=>[[],[],[],[0,1,7,8],[],[],[],[],[],[],[],[]]
 | 111=>[[],[]]
 | 112=>[[],[]]
 | 113=>[[],[],[],[],[],[],[]]
 | 114=>[[],[],[],[],[],[0,1,6,7,8],[],[],[],[],[6,7],[]]
 | 115=>[[],[],[0,2,3],[],[],[]]
 | 116=>[[],[]]
 | 117=>[[],[1,4,6],[1,4,6,9],[]]
 | 118=>[[],[],[0],[0,6],[0,6,13],[],[],[0],[]]
 | 119=>[[],[]]
 | 120=>[[],[],[],[4,5,6],[],[],[],[4,5],[]]
 | 121=>[[],[],[],[2,3,4,5,8,9,32],[3,4,5,8,9,32,37],[],[4,5,8,9],[]]
 | 122=>[[],[],[],[],[1,5,18,19,20],[],[],[],[],[],[],[1,5,6,7,8,18,19,20,25,26,27],[],[],[],[],[],[1,5,6,8,18,19,20],[1,5,18,19,20],[5],[]]
 | 123=>[[],[]]
 | 124=>[[],[]]
 | 125=>[[],[],[],[0,11,12],[],[],[],[0,4,11,12,19],[0,11,12,19,23],[],[],[],[0],[0,28],[0,28,32],[0,28,32,35],[0,28,36],[0,38],[0,38,41],[],[],[],[],[],[0,5],[],[],[],[],[],[],[0,5,6,7,8,50,51],[],[],[],[],[0,5,6,7,8],[],[5],[]]
 | 126=>[[],[],[],[],[],[],[],[],[],[0,1,5],[],[],[],[],[],[],[],[],[],[]]
 | 127=>[[],[]]
 | 128=>[[],[],[0,1],[],[],[],[],[0,1,5,6,21,22],[],[],[],[],[],[0,1,5,6,7,8,21,22],[0,1,5,6,21,22],[0,5,6],[],[]]
 | 129=>[[],[],[],[],[],[0,1,5,6,13,14],[],[],[],[],[],[0,1,5,6,7,8,13,14],[0,1,5,6,13,14],[5],[]]
 | 130=>[[],[],[],[],[],[],[],[],[],[],[],[],[],[],[8,9,10,11,12,13],[],[],[],[8,10,11,12],[]]
 | 131=>[[],[],[],[],[],[]]
 | 132=>[[],[],[],[],[]]
 | 133=>[[],[],[],[]]
 | 134=>[[],[],[]]
 | 135=>[[],[]]
 | 136=>[[],[],[],[],[1,5,13,14,15],[],[],[],[],[],[],[5],[]]
 | 137=>[[],[],[],[],[],[0,1,5,7,8],[],[],[],[],[],[0,1,5,7],[],[],[],[0,1,5,7,9,10,83,84],[],[],[],[],[],[],[0,1,5,7,9,10],[],[],[],[],[],[],[0,1,5,7,13,132,133],[],[],[],[],[0,5,7,13],[7],[]]
 | 138=>[[],[],[],[],[0,1,5,12,13],[],[],[],[],[],[0,1,5,6,7,12,13],[0,1,5,12,13],[5],[]]
 | 139=>[[],[],[0,1,4,5,12,19,36,107,132],[0,1,4,5,12,19,22,36,107,132],[],[],[],[],[],[],[],[],[],[],[],[],[],[],[],[0,1,5,6,7,8,9,10,12,107,132],[],[],[],[],[],[],[],[0,1,5,6,7,8,9,10,12,107,132],[0,1,5,6,7,8,9,10,12,84,107,132],[0,1,5,6,7,8,9,10,12,84,92,107,132],[],[],[],[],[],[],[],[],[],[],[],[],[],[],[],[],[],[],[]]
 | 140=>[[],[0,1,10],[10,16],[]]
 | 141=>[[],[],[],[0,2],[],[],[0,2],[]]
 | 142=>[[],[]]
 | 144=>[[],[]]
 | 145=>[[],[],[],[],[],[],[0,1,5,6,7,8,9],[],[],[],[0,1,5,6,7,8],[0,1,5,6,7,8,33],[0,1,5,6,7,8,33,38],[],[],[],[],[],[0,1,5,6,7,8,10],[],[],[],[],[],[],[0,1,5,6,7,8,10,68],[0,1,5,6,7,8,10,68,76],[],[],[],[]]
 | 147=>[[],[],[],[],[0,4,5],[],[],[],[0,4],[],[],[],[4,6,7,8],[],[],[],[4,6,7,8],[4,6,7,8],[4,6],[]]
 | _=>[]
end
end Go.Proofs.YtelmdbpaoifmoaaGreat
namespace Go.Sim
section
noncomputable def I4 (P:Program) (H:FuncId→Hints) (lf:Nat) (call:lF):lF:=
 fun t args h=>
  match t with
  | .func F=>
   match bz P F (H F) with
   | some (N,ic,rs)=>
    if args.length≤N then
     match lU P (call) lf ic (bt args) h with
     | some (.normal,f,h')=>match pD rs f h' with | some vs=>some (pack vs,h') | none=>none
     | some (.ret,f,h')=>match pD rs f h' with | some vs=>some (pack vs,h') | none=>none
     | _=>none
    else none
   | none=>none
  | .yield i=>
   match h[i]? with
   | some (.loop c ls vs)=>
    match fM P c.N c.ky [],fM P c.N c.body [] with
    | some (ia,_),some (ib,_)=>
     if args.length=c.ps.size∧c.ps.all (·<c.N)=true∧iO c.ky=true∧iO c.body=true then
      match lU P (call) lf ia (CP c.ps.toList args (kF ls vs)) (h.set i .dead) with
      | some (.normal,f1,h1)=>
       if JZ h1 i=true then
        match lU P (call) lf ib f1 h1 with
        | some (.normal,_,h2)=>if JZ h2 i=true then some (.bool true,h2.set i (.loop c ls vs)) else none
        | _=>none
       else none
      | _=>none
     else none
    | _,_=>none
   | _=>none
  | _=>none
theorem awA {P:Program} {H:FuncId→Hints} {lf:Nat} {call:lF} (HC:sR P call):sR P (I4 P H lf call):=by
 constructor
 ·intro F args h v h' he
  simp only [I4] at he
  split at he
  ·rename_i N ic rs hc
   split at he
   ·rename_i ha
    have key:∀{e f h1 vs},(e=Exit.normal∨e=Exit.ret)→lU P (call) lf ic (bt args) h=some (e,f,h1)→pD rs f h1=some vs→xk P F args h (pack vs) h1:=by
     intro e f h1 vs Rz Ey hr
     obtain ⟨u,g,q1,rfl,rfl⟩:=afG hc ha (K:=fun u g=>u=pack vs∧g=h1) (QN HC Ey (by
      rcases Rz with rfl | rfl
      ·exact Lu hr ⟨rfl,rfl⟩
      ·exact Lu hr ⟨rfl,rfl⟩))
     exact q1
    split at he
    ·rename_i f h1 Ey
     split at he
     ·rename_i vs hr
      simp at he
      obtain ⟨rfl,rfl⟩:=he
      exact key (.inl rfl) Ey hr
     ·cases he
    ·rename_i f h1 Ey
     split at he
     ·rename_i vs hr
      simp at he
      obtain ⟨rfl,rfl⟩:=he
      exact key (.inr rfl) Ey hr
     ·cases he
    ·cases he
   ·cases he
  ·cases he
 ·intro i args h v h' he
  simp only [I4] at he
  split at he
  ·rename_i c ls vs hi
   split at he
   ·rename_i ia _ ib _ ha hb
    split at he
    ·rename_i Ew
     obtain ⟨c1,c2,c3,c4⟩:=Ew
     split at he
     ·rename_i f1 h1 e1
      split at he
      ·rename_i d1
       split at he
       ·rename_i f2 h2 e2
        split at he
        ·rename_i d2
         simp at he
         obtain ⟨rfl,rfl⟩:=he
         obtain ⟨u,g,q1,rfl,rfl⟩:=aGF (K:=fun u g=>u=.bool true∧g=h2.set i (.loop c ls vs)) hi c1 c2 ha hb c3 c4
          (QN HC e1 ⟨rfl,afW d1,QN HC e2 ⟨rfl,afW d2,rfl,rfl⟩⟩)
         exact q1
        ·cases he
       ·cases he
      ·cases he
     ·cases he
    ·cases he
   ·cases he
  ·cases he
end
end Go.Sim
namespace Go.Proofs.YtelmdbpaoifmoaaGreat
open Go.Sim
section
variable (P : Program) (K : VK)
noncomputable section
variable (p0 : Value) (h : ae)
def aik:=bz prog 61 [[],[]]
@[irreducible] def c61:=bJ aik
theorem k61:aik=some (10,c61,[.tmp 2]):=by kernel_rfl
def OF (_:Program) (K:VK) (p0:Value) (h:ae):Prop:=
 OP (ym p0) fun x4=>
 OP (aL 0 x4) fun x5=>
 OP (af false 1 h x5) fun x6=>
 OP (bj x6) fun x7=>
 OP (ai .shl (.int .u16 (1)) x7) fun x8=>
 OP (ai .sub x8 (.int .u16 (1))) fun x9=>
 K x9 h
theorem e61:aq P c61 (aT [.tmp 2] K) (bt [p0]) h=OF P K p0 h:=by kernel_rfl
theorem f61 {K:VK} {p0:Value} {h:ae} (H:OF prog K p0 h):ak prog 61 [p0] h K:=
 bK k61 (bI rfl) ((e61 prog K p0 h).mpr H)
end
noncomputable section
variable (p0 s1 x5 x9 aM au : Value) (L1 : LQ) (xs : List Value) (h : ae)
def ail:=bz prog 62 [[],[],[],[0,9,10],[5,11],[],[],[],[],[5],[]]
@[irreducible] def HW:=bJ ail
@[irreducible] def atD:=HW.r.r.l.r.l.l
@[irreducible] def abC:=HW.r.r.r
@[irreducible] def atC:=abC.l
theorem k62:ail=some (27,HW,[.tmp 4]):=by kernel_rfl
def Nb (_P:Program) (K:VK):ar:=aT [.tmp 4] K
def aqg:ar:=aG (aq P abC (Nb P K)) (Nb P K)
def aqh:ar:=bO 0 (aqg P K)
def aqi:ar:=aG (fun f' aW=>(([0,9,10]:List Nat).map f':List Value)=[p0,x9,aM]∧L1 (([5,11]:List Nat).map f') aW) (aqh P K)
def ako:Prop:=ay (aq P atD (aqi P K p0 x9 aM L1)) ([0,9,10]++[5,11]) ([p0,x9,aM]++xs) h
def akn:Prop:=ay (aq P atC (Nb P K)) [5] [x5] h
theorem aCX (p0 x9 aM:Value) (L1:LQ) (x5 au:Value) (h:ae):ako P K p0 x9 aM L1 [x5,au] h=
 (OP (ai .lss au aM) fun aC=>
 aR aC
 (OP (bf 1 x9 au) fun aB=>
 OP (af false 1 h aB) fun aH=>
 OP (ym p0) fun bN=>
 OP (aL 0 bN) fun aQ=>
 OP (af false 1 h aQ) fun aO=>
 OP (bf 2 aO aH) fun aZ=>
 OP (aL 0 aZ) fun bF=>
 OP (af false 1 h bF) fun cB=>
 OP (ai .add x5 cB) fun bu=>
 OP (ai .add au (.int .i64 (1))) fun ca=>
 ([p0,x9,aM]:List Value)=[p0,x9,aM]∧L1 [bu,ca] h)
 (akn P K x5 h)):=az (by kernel_rfl)
theorem aCW:akn P K x5 h=
 (K x5 h):=az (by kernel_rfl)
def Zk:Prop:=
 ak P 74 [s1] h fun x9 z1=>
 OP (bj x9) fun aM=>
 cQ [(.int .i64 (0)),(.int .i64 (0))] z1 fun L1 xs hx=>
 ako P K p0 x9 aM L1 xs hx
theorem e62:aq P HW (aT [.tmp 4] K) (bt [p0,s1]) h=Zk P K p0 s1 h:=by kernel_rfl
theorem f62 {K:VK} {p0 s1:Value} {h:ae} (H:Zk prog K p0 s1 h):ak prog 62 [p0,s1] h K:=
 bK k62 (bI rfl) ((e62 prog K p0 s1 h).mpr H)
end
noncomputable section
variable (s0 x3 x5 : Value) (L1 : LQ) (xs : List Value) (h : ae)
def aiw:=bz prog 74 [[],[],[],[0],[3,5],[],[],[],[],[0,3,5],[3],[]]
@[irreducible] def Ih:=bJ aiw
@[irreducible] def acp:=Ih.r.r.l.r.l.l
@[irreducible] def aco:=Ih.r.r.r
@[irreducible] def auo:=acp.r.r.r.l
@[irreducible] def aup:=aco.l
theorem k74:aiw=some (17,Ih,[.tmp 2]):=by kernel_rfl
def Nl (_P:Program) (K:VK):ar:=aT [.tmp 2] K
def aq1:ar:=aG (aq P aco (Nl P K)) (Nl P K)
def aq2:ar:=bO 0 (aq1 P K)
def YU:ar:=aG (fun f' aW=>(([0]:List Nat).map f':List Value)=[s0]∧L1 (([3,5]:List Nat).map f') aW) (aq2 P K)
def ak7:Prop:=ay (aq P acp (YU P K s0 L1)) ([0]++[3,5]) ([s0]++xs) h
def U3:Prop:=ay (aq P auo (YU P K s0 L1)) [0,3,5] [s0,x3,x5] h
def ak6:Prop:=ay (aq P aup (Nl P K)) [3] [x3] h
theorem amI:U3 P K s0 x3 x5 L1 h=
 (OP (ai .add x5 (.int .i64 (1))) fun bc=>
 ([s0]:List Value)=[s0]∧L1 [x3,bc] h):=az (by kernel_rfl)
theorem aDU (s0:Value) (L1:LQ) (x3 x5:Value) (h:ae):ak7 P K s0 L1 [x3,x5] h=
 (OP (ai .lss x5 (.int .i64 (10))) fun x6=>
 aR x6
 (ak P 98 [s0,x5] h fun aM z1=>
 aR aM
 (OH (dK 3 1 [(.int .i64 (0))] z1 [(0,1,x5)]) fun aB z2=>
 OH (dY 3 1 8 z2 x3 aB) fun aH z3=>
 U3 P K s0 aH x5 L1 z3)
 (U3 P K s0 x3 x5 L1 z1))
 (ak6 P K x3 h)):=az (by kernel_rfl)
theorem aDT:ak6 P K x3 h=
 (K x3 h):=az (by kernel_rfl)
def OT:Prop:=
 cQ [(.slice none 0 0),(.int .i64 (0))] h fun L1 xs hx=>
 ak7 P K s0 L1 xs hx
theorem e74:aq P Ih (aT [.tmp 2] K) (bt [s0]) h=OT P K s0 h:=by kernel_rfl
theorem f74 {K:VK} {s0:Value} {h:ae} (H:OT prog K s0 h):ak prog 74 [s0] h K:=
 bK k74 (bI rfl) ((e74 prog K s0 h).mpr H)
end
noncomputable section
variable (p0 s1 x5 x9 aM au : Value) (L1 : LQ) (xs : List Value) (h : ae)
def aiy:=bz prog 76 [[],[],[],[0,9,10],[5,11],[],[],[],[],[5],[]]
@[irreducible] def Ii:=bJ aiy
@[irreducible] def aur:=Ii.r.r.l.r.l.l
@[irreducible] def acr:=Ii.r.r.r
@[irreducible] def auq:=acr.l
theorem k76:aiy=some (27,Ii,[.tmp 4]):=by kernel_rfl
def Nm (_P:Program) (K:VK):ar:=aT [.tmp 4] K
def aq3:ar:=aG (aq P acr (Nm P K)) (Nm P K)
def aq4:ar:=bO 0 (aq3 P K)
def aq5:ar:=aG (fun f' aW=>(([0,9,10]:List Nat).map f':List Value)=[p0,x9,aM]∧L1 (([5,11]:List Nat).map f') aW) (aq4 P K)
def ak9:Prop:=ay (aq P aur (aq5 P K p0 x9 aM L1)) ([0,9,10]++[5,11]) ([p0,x9,aM]++xs) h
def ak8:Prop:=ay (aq P auq (Nm P K)) [5] [x5] h
theorem aDW (p0 x9 aM:Value) (L1:LQ) (x5 au:Value) (h:ae):ak9 P K p0 x9 aM L1 [x5,au] h=
 (OP (ai .lss au aM) fun aC=>
 aR aC
 (OP (bf 1 x9 au) fun aB=>
 OP (af false 1 h aB) fun aH=>
 OP (ym p0) fun bN=>
 OP (aL 0 bN) fun aQ=>
 OP (af false 1 h aQ) fun aO=>
 OP (bf 2 aO aH) fun aZ=>
 OP (aL 1 aZ) fun bF=>
 OP (af false 1 h bF) fun cB=>
 OP (ai .add x5 cB) fun bu=>
 OP (ai .add au (.int .i64 (1))) fun ca=>
 ([p0,x9,aM]:List Value)=[p0,x9,aM]∧L1 [bu,ca] h)
 (ak8 P K x5 h)):=az (by kernel_rfl)
theorem aDV:ak8 P K x5 h=
 (K x5 h):=az (by kernel_rfl)
def Zl:Prop:=
 ak P 74 [s1] h fun x9 z1=>
 OP (bj x9) fun aM=>
 cQ [(.int .i64 (0)),(.int .i64 (0))] z1 fun L1 xs hx=>
 ak9 P K p0 x9 aM L1 xs hx
theorem e76:aq P Ii (aT [.tmp 4] K) (bt [p0,s1]) h=Zl P K p0 s1 h:=by kernel_rfl
theorem f76 {K:VK} {p0 s1:Value} {h:ae} (H:Zl prog K p0 s1 h):ak prog 76 [p0,s1] h K:=
 bK k76 (bI rfl) ((e76 prog K p0 s1 h).mpr H)
end
noncomputable section
variable (s0 i1 : Value) (h : ae)
def aiQ:=bz prog 98 [[],[]]
@[irreducible] def c98:=bJ aiQ
theorem k98:aiQ=some (10,c98,[.tmp 4]):=by kernel_rfl
def Pb (_:Program) (K:VK) (s0 i1:Value) (h:ae):Prop:=
 OP (ai .shr s0 i1) fun x7=>
 OP (ai .and x7 (.int .u16 (1))) fun x8=>
 OP (ai .eql x8 (.int .u16 (1))) fun x9=>
 K x9 h
theorem e98:aq P c98 (aT [.tmp 4] K) (bt [s0,i1]) h=Pb P K s0 i1 h:=by kernel_rfl
theorem f98 {K:VK} {s0 i1:Value} {h:ae} (H:Pb prog K s0 i1 h):ak prog 98 [s0,i1] h K:=
 bK k98 (bI rfl) ((e98 prog K s0 i1 h).mpr H)
end
end
end Go.Proofs.YtelmdbpaoifmoaaGreat
namespace Go.Sim
section
def val (B:Nat):List Nat→Nat
 | []=>0
 | d::ds=>d+B*val B ds
def cn (B:Nat) (xs:List Nat):Prop:=∀x∈xs,x<B
def dE (B:Nat) (xs:List Nat):Prop:=cn B xs∧xs.getLast?≠some 0
theorem od (B:Nat):∀xs ys:List Nat,val B (xs++ys)=val B xs+B^xs.length*val B ys
 | [],ys=>by simp [val]
 | x::xs,ys=>by
  simp only [cons_append,val,od B xs ys,length_cons,Nat.pow_succ]
  grind
theorem yz (B:Nat):∀n,val B (replicate n 0)=0
 | 0=>rfl
 | n+1=>by rw [List.replicate_succ];simp [val,yz B n]
theorem tT (B:Nat):∀(xs:List Nat) (i d:Nat) (hi:i<xs.length),val B (xs.set i d)+B^i*xs[i]=val B xs+B^i*d
 | [],i,d,hi=>by simp at hi
 | x::xs,0,d,hi=>by simp [val];omega
 | x::xs,i+1,d,hi=>by
  have ih:=tT B xs i d (by simpa using hi)
  simp only [List.set_cons_succ,val,List.getElem_cons_succ,Nat.pow_succ]
  grind
theorem jw (B:Nat) (xs:List Nat) {i:Nat} (hi:i<xs.length):val B (xs.take (i+1))=val B (xs.take i)+B^i*xs[i]:=by
 rw [List.take_succ_eq_append_getElem hi,od]
 simp [val,Nat.min_eq_left (Nat.le_of_lt hi)]
theorem cn.mono {B:Nat} {xs ys:List Nat} (h:cn B xs) (hs:∀y∈ys,y∈xs):cn B ys:=fun y hy=>h y (hs y hy)
theorem cn.append {B:Nat} {xs ys:List Nat} (h:cn B xs) (k:cn B ys):cn B (xs++ys):=fun y hy=>(mem_append.1 hy).elim (h y) (k y)
theorem cn.set {B:Nat} {xs:List Nat} (h:cn B xs) {d:Nat} (hd:d<B) (i:Nat):cn B (xs.set i d):=fun y hy=>by
 rcases List.mem_or_eq_of_mem_set hy with h1 | h1
 ·exact h y h1
 ·rw [h1];exact hd
theorem cn.xe {B:Nat} (hB:0<B) (n:Nat):cn B (replicate n 0):=fun y hy=>by
 rw [(List.mem_replicate.1 hy).2];exact hB
theorem nD {B:Nat}:∀{xs:List Nat},cn B xs→val B xs<B^xs.length
 | [],_=>by simp [val]
 | x::xs,h=>by
  have h1:=h x (by simp)
  have ih:=nD (xs:=xs) fun y hy=>h y (by simp [hy])
  simp only [val,length_cons,Nat.pow_succ]
  have:B*(val B xs+1)≤B*B^xs.length:=Nat.mul_le_mul_left _ ih
  rw [Nat.mul_comm (B^xs.length)]
  grind
theorem dE.cons {B:Nat} {x:Nat} {xs:List Nat} (h:dE B (x::xs)):x<B∧dE B xs∧(xs=[]→x≠0):=by
 refine ⟨h.1 x (by simp),⟨fun y hy=>h.1 y (by simp [hy]),?_⟩,?_⟩
 ·intro hl
  apply h.2
  cases xs with
  | nil=>simp at hl
  | cons y ys=>simpa [List.getLast?_cons_cons] using hl
 ·rintro rfl rfl
  exact h.2 rfl
theorem dE.zero {B:Nat} (hB:0<B):∀{xs:List Nat},dE B xs→val B xs=0→xs=[]
 | [],_,_=>rfl
 | x::xs,h,h0=>by
  obtain ⟨_,h2,h3⟩:=h.cons
  simp only [val] at h0
  have hx:x=0:=by omega
  have hv:B*val B xs=0:=by omega
  have:val B xs=0:=by
   rcases Nat.mul_eq_zero.1 hv with h | h
   ·omega
   ·exact h
  exact absurd hx (h3 (dE.zero hB h2 this))
theorem dE.unique {B:Nat} (hB:0<B):∀{xs ys:List Nat},dE B xs→dE B ys→val B xs=val B ys→xs=ys
 | [],ys,_,hy,h=>(dE.zero hB hy (by simpa [val] using h.symm)).symm
 | x::xs,[],hx,_,h=>dE.zero hB hx (by simpa [val] using h)
 | x::xs,y::ys,hx,hy,h=>by
  obtain ⟨a1,a2,_⟩:=hx.cons
  obtain ⟨b1,b2,_⟩:=hy.cons
  simp only [val] at h
  have e1:x=y:=by
   have:=congrArg (·%B) h
   simpa [Nat.add_mul_mod_self_left,Nat.mod_eq_of_lt a1,Nat.mod_eq_of_lt b1] using this
  subst e1
  have e2:val B xs=val B ys:=Nat.eq_of_mul_eq_mul_left hB (by omega)
  rw [dE.unique hB a2 b2 e2]
theorem dE.low {B:Nat} (hB:0<B):∀{xs:List Nat},dE B xs→xs≠[]→B^(xs.length-1)≤val B xs
 | [x],h,_=>by
  have:=h.cons.2.2 rfl
  simp [val]
  omega
 | x::y::xs,h,_=>by
  have ih:=dE.low hB h.cons.2.1 (by simp)
  simp only [length_cons,Nat.add_sub_cancel] at ih⊢
  rw [show val B (x::y::xs)=x+B*val B (y::xs) from rfl,Nat.pow_succ]
  have:B*B^xs.length≤B*val B (y::xs):=Nat.mul_le_mul_left _ ih
  rw [Nat.mul_comm (B^xs.length)]
  omega
theorem dE.len {B k:Nat} (hB:1<B) {xs:List Nat} (h:dE B xs) (hv:val B xs<B^k):xs.length≤k:=by
 by_cases hx:xs=[]
 ·subst hx;simp
 ·have h1:=dE.low (by omega) h hx
  have h2:B^(xs.length-1)<B^k:=Nat.lt_of_le_of_lt h1 hv
  have:=(Nat.pow_lt_pow_iff_right hB).1 h2
  have:0<xs.length:=List.length_pos_iff.2 hx
  omega
theorem dE.nil (B:Nat):dE B []:=⟨fun x hx=>by simp at hx,by simp⟩
theorem dE.AF {B:Nat} (hB:1<B) {xs ys:List Nat} (hx:dE B xs) (hy:dE B ys) (h:xs.length<ys.length):val B xs<val B ys:=by
 have h1:=nD hx.1
 have h2:=dE.low (by omega) hy (by rintro rfl;simp at h)
 have h3:B^xs.length≤B^(ys.length-1):=pow_le_pow_right (by omega) (by omega)
 omega
theorem Iw {B:Nat} {xs:List Nat} (h:cn B xs) (hl:∀h0:0<xs.length,xs[xs.length-1]≠0):dE B xs:=by
 refine ⟨h,fun h0=>?_⟩
 rw [List.getLast?_eq_getElem?] at h0
 obtain ⟨h1,h2⟩:=bL h0
 exact hl (by omega) h2
end
section
def SK (k:IntKind):Prop:=k=.u16∨k=.i64
theorem SK.wrap {k:IntKind} (hk:SK k) {n:Int} (h0:0≤n) (h1:n<32768):k.wrap n=n:=by
 rcases hk with rfl | rfl
 ·have e:IntKind.wrap .u16 n=n%65536:=by simp [IntKind.wrap,IntKind.bits,IntKind.signed]
  rw [e];omega
 ·exact wrap64 (by omega) (by omega)
theorem SK.bits {k:IntKind} (hk:SK k):16≤k.bits:=by
 rcases hk with rfl | rfl <;> decide
theorem SK.toNat {k:IntKind} (hk:SK k) {a:Nat} (ha:a<1024):(BitVec.ofInt k.bits (a:Int)).toNat=a:=by
 have h:=hk.bits
 have h2:(2:Nat)^16≤2^k.bits:=pow_le_pow_right (by decide) h
 rw [BitVec.toNat_ofInt]
 have h3:((2^k.bits:Nat):Int)=2^k.bits:=by simp
 rw [Int.emod_eq_of_lt (by omega) (by omega)]
 omega
theorem CH {k:IntKind} (hk:SK k) {a b:Nat} (ha:a<1024) (hb:b<1024):ai .or (.int k (a:Int)) (.int k (b:Int))=some (.int k ((a ||| b:Nat):Int)):=by
 have e:ai .or (.int k (a:Int)) (.int k (b:Int))=some (Value.int k (k.wrap ((BitVec.ofInt k.bits (a:Int) ||| BitVec.ofInt k.bits (b:Int)).toNat:Int))):=by simp [ai,hZ]
 rw [e,BitVec.toNat_or,hk.toNat ha,hk.toNat hb]
 have:a ||| b<2^10:=Nat.or_lt_two_pow ha hb
 rw [hk.wrap (by omega) (by omega)]
theorem Zt {k:IntKind} (hk:SK k) {a b:Nat} (ha:a<1024) (hb:b<1024):ai .and (.int k (a:Int)) (.int k (b:Int))=some (.int k ((a &&& b:Nat):Int)):=by
 have e:ai .and (.int k (a:Int)) (.int k (b:Int))=some (Value.int k (k.wrap ((BitVec.ofInt k.bits (a:Int) &&& BitVec.ofInt k.bits (b:Int)).toNat:Int))):=by simp [ai,hZ]
 rw [e,BitVec.toNat_and,hk.toNat ha,hk.toNat hb]
 have:a &&& b<2^10:=Nat.and_lt_two_pow _ hb
 rw [hk.wrap (by omega) (by omega)]
def iQ (a b:Nat):Bool:=a &&& b==a
theorem arC {k:IntKind} (hk:SK k) {a b:Nat} (ha:a<1024) (hb:b<1024):∃r:Nat,ai .andNot (.int k (a:Int)) (.int k (b:Int))=some (.int k (r:Int))∧(r=0↔iQ a b=true):=by
 have h1:(BitVec.ofInt k.bits (a:Int) &&& ~~~BitVec.ofInt k.bits (b:Int)).toNat≤a:=by
  rw [BitVec.toNat_and,hk.toNat ha]
  exact Nat.and_le_left
 refine ⟨(BitVec.ofInt k.bits (a:Int) &&& ~~~BitVec.ofInt k.bits (b:Int)).toNat,?_,?_⟩
 ·have e:ai .andNot (.int k (a:Int)) (.int k (b:Int))=some (Value.int k (k.wrap ((BitVec.ofInt k.bits (a:Int) &&& ~~~BitVec.ofInt k.bits (b:Int)).toNat:Int))):=by simp [ai,hZ]
  rw [e,hk.wrap (by omega) (by omega)]
 ·generalize hx:BitVec.ofInt k.bits (a:Int)=x
  generalize hy:BitVec.ofInt k.bits (b:Int)=y
  have ex:x.toNat=a:=by rw [←hx];exact hk.toNat ha
  have ey:y.toNat=b:=by rw [←hy];exact hk.toNat hb
  unfold iQ
  rw [beq_iff_eq,←ex,←ey,←BitVec.toNat_and]
  have h0:(x &&& ~~~y).toNat=0↔x &&& ~~~y=0#k.bits:=by
   constructor
   ·intro h;exact BitVec.eq_of_toNat_eq (by rw [h];simp)
   ·intro h;rw [h];simp
  rw [h0]
  constructor
  ·intro h
   have:x &&& y=x:=by
    ext i hi
    have:=congrArg (fun v=>v[i]) h
    simp only [BitVec.getElem_and,BitVec.getElem_not,BitVec.getElem_zero] at this⊢
    cases hxi:x[i] <;> cases JV:y[i] <;> simp_all
   rw [this]
  ·intro h
   have h2:x &&& y=x:=BitVec.eq_of_toNat_eq h
   ext i hi
   have:=congrArg (fun v=>v[i]) h2
   simp only [BitVec.getElem_and,BitVec.getElem_not,BitVec.getElem_zero] at this⊢
   cases hxi:x[i] <;> cases JV:y[i] <;> simp_all
theorem aFr {k:IntKind} (hk:SK k) {s a:Nat} (ha:a<16):ai .shr (.int k (s:Int)) (I a)=some (.int k ((s / 2^a:Nat):Int)):=by
 have h:=hk.bits
 simp only [ai,q8]
 rw [if_neg (by omega)]
 have:min ((a:Int).toNat) k.bits=a:=by omega
 rw [this,Int.fdiv_eq_ediv_of_nonneg _ (Int.pow_nonneg (by decide))]
 rfl
theorem F5 {k:IntKind} (hk:SK k) {a:Nat} (ha:a<11):ai .shl (.int k 1) (I a)=some (.int k ((2^a:Nat):Int)):=by
 have h:=hk.bits
 simp only [ai,q8]
 rw [if_neg (by omega)]
 have:min ((a:Int).toNat) k.bits=a:=by omega
 rw [this,Int.one_mul]
 have h2:(2:Nat)^a≤2^10:=pow_le_pow_right (by decide) (by omega)
 have h3:((2:Int)^a)=((2^a:Nat):Int):=by simp
 rw [h3,hk.wrap (Int.natCast_nonneg _) (by have:((2^a:Nat):Int)≤((1024:Nat):Int):=Int.ofNat_le.2 h2
                                           omega)]
theorem arK (z:Nat):z &&& 1=z%2:=Nat.and_one_is_mod z
theorem pH {a b:Nat}:iQ a b=true↔∀i,a.testBit i=true→b.testBit i=true:=by
 unfold iQ
 rw [beq_iff_eq]
 constructor
 ·intro h i hi
  have:=congrArg (fun n=>n.testBit i) h
  simp only [testBit_and] at this
  rw [hi] at this
  simpa using this
 ·intro h
  apply eq_of_testBit_eq
  intro i
  rw [testBit_and]
  cases hi:a.testBit i with
  | false=>rfl
  | true=>rw [h i hi];rfl
theorem sI (d i j:Nat):(d ||| 2^i).testBit j=(d.testBit j||decide (i=j)):=by
 rw [testBit_or,Nat.testBit_two_pow]
theorem tN {d i n:Nat} (hd:d<2^n) (hi:i<n):d ||| 2^i<2^n:=Nat.or_lt_two_pow hd (Nat.pow_lt_pow_right (by decide) hi)
end
section
def iR {α:Type}:List α→(α→Int)→Int
 | [],_=>0
 | x::l,f=>f x+iR l f
section
variable {α β : Type}
theorem A3 (f:α→Int):∀l m:List α,iR (l++m) f=iR l f+iR m f
 | [],m=>by simp [iR]
 | x::l,m=>by simp only [cons_append,iR,A3 f l m];omega
end
section
variable (com : Nat → Nat → Bool)
variable {com}
end
end
end Go.Sim
namespace Go.Proofs.YtelmdbpaoifmoaaGreat
open Go.Sim
section
abbrev U (s:Nat):Value:=.int .u16 (s:Int)
theorem mX:SK .u16:=.inl rfl
def PL (h:ae) (p:Value) (js:List (Int×Int)) (bs:List Nat):Prop:=∃i vj vb,p=pt i 0∧aP h i=some [vj,vb]∧PS h vj js∧NS h vb .u16 (bs.map fun b:Nat=>(b:Int))
theorem PL.mono {h h':ae} {p:Value} {js:List (Int×Int)} {bs:List Nat} (x:EX h h') (q:PL h p js bs):PL h' p js bs:=
 let ⟨i,vj,vb,a,b,c,d⟩:=q;⟨i,vj,vb,a,x.cells b,c.mono x,d.mono x⟩
def DB (n:Nat):Nat:=2^n-1
theorem XK {s i:Nat} {h:ae} {K:Value→ae→Prop} (hi:i<16) (hs:s<1024) (hk:K (B (s.testBit i)) h):ak prog 98 [U s,I i] h K:=by
 refine f98 ?_
 have hd:s / 2^i<1024:=Nat.lt_of_le_of_lt (Nat.div_le_self _ _) hs
 have ha:=Zt mX hd (show 1<1024 by decide)
 have kC:ai .and (.int .u16 ((s / 2^i:Nat):Int)) (.int .u16 1)=some (.int .u16 ((s / 2^i &&& 1:Nat):Int)):=ha
 simp only [Pb,aFr mX hi,ah,kC,iT]
 have e:decide (((s / 2^i &&& 1:Nat):Int)=1)=s.testBit i:=by
  rw [Nat.testBit_eq_decide_div_mod_eq,arK]
  by_cases h1:s / 2^i%2=1
  ·rw [aU h1,aU (by omega)]
  ·rw [aS h1,aS (by omega)]
 rw [e]
 exact hk
theorem Dg {p:Value} {js:List (Int×Int)} {bs:List Nat} {h:ae} {K:Value→ae→Prop} (hp:PL h p js bs) (hl:js.length≤10) (hk:K (U (DB js.length)) h):ak prog 61 [p] h K:=by
 obtain ⟨i,vj,vb,rfl,hc,hj,hb⟩:=hp
 refine f61 ?_
 have ld:af false 1 h (pt i 0)=some vj:=by simp [af,hc,b9]
 have e1:(1:Nat)≤2^js.length:=pow_pos (by decide)
 have e2:(2:Nat)^js.length≤2^10:=pow_le_pow_right (by decide) hl
 simp only [OF,AM,ah,bU,add_zero,ld,hj.len,F5 mX (show js.length<11 by omega),gE]
 rw [mX.wrap (by omega) (by omega)]
 have:((2^js.length:Nat):Int)-1=((DB js.length:Nat):Int):=by unfold DB;omega
 rw [this]
 exact hk
def VQ (bs:List Nat) (s i:Nat):Bool:= !s.testBit i&&iQ (bs.getD i 0) s
theorem NS.ad0 {h:ae} {v:Value} {bs:List Nat} (p:NS h v .u16 (bs.map fun b:Nat=>(b:Int))) {i:Nat} (hi:i<bs.length):∃b o,bf 1 v (I i)=some (pt b o)∧af false 1 h (pt b o)=some (U (bs.getD i 0)):=by
 obtain ⟨b,o,g1,g2⟩:=p.get i (by simpa using hi)
 refine ⟨b,o,g1,?_⟩
 rw [g2]
 simp [getD_eq_getElem?_getD,hi]
theorem MA {p:Value} {js:List (Int×Int)} {bs:List Nat} {s i:Nat} {h:ae} {K:Value→ae→Prop} (hp:PL h p js bs) (hi:i<bs.length) (hl:bs.length≤10) (hs:s<1024) (hb:∀b∈bs,b<1024) (hk:K (B (VQ bs s i)) h):
  ak prog 63 [p,U s,I i] h K:=by
 obtain ⟨a,vj,vb,rfl,hc,hj,iW⟩:=hp
 refine f63 (XK (by omega) hs ?_)
 have ld:af false 1 h (pt a 1)=some vb:=by simp [af,hc,b9]
 unfold VQ at hk
 simp only [oc,ah]
 cases ht:s.testBit i with
 | true=>
  rw [ht] at hk
  simp only [Bool.not_true,aCY,kL,aCZ,cK,ah]
  exact hk
 | false=>
  rw [ht] at hk
  obtain ⟨b,o,g1,g2⟩:=NS.ad0 iW hi
  have Ev:bs.getD i 0<1024:=by
   have:bs.getD i 0=bs[i]:=by simp [getD_eq_getElem?_getD,hi]
   rw [this];exact hb _ (getElem_mem hi)
  obtain ⟨r,r1,r2⟩:=arC mX Ev hs
  simp only [Bool.not_false,aCY,jm,AM,ah,bU,zero_add,ld,g1,g2,r1,iT,aCZ,dZ]
  have e:decide ((r:Int)=0)=iQ (bs.getD i 0) s:=by
   cases hq:iQ (bs.getD i 0) s with
   | true=>exact aU (by have:=r2.2 hq;omega)
   | false=>exact aS (by intro h0;have:=r2.1 (by omega);rw [hq] at this;cases this)
  rw [e]
  simpa using hk
def cD (s:Nat):Nat→List Nat
 | 0=>[]
 | i+1=>if s.testBit i=true then cD s i++[i] else cD s i
theorem Fg (s:Nat):∀n,(cD s n).length≤n
 | 0=>le_refl _
 | n+1=>by have:=Fg s n;simp only [cD];split <;> simp <;> omega
theorem CA (s:Nat):∀(n i:Nat),i∈cD s n→i<n∧s.testBit i=true
 | 0,i,h=>by simp [cD] at h
 | n+1,i,h=>by
  simp only [cD] at h
  split at h
  ·rename_i ht
   rcases mem_append.1 h with h | h
   ·have:=CA s n i h;exact ⟨by omega,this.2⟩
   ·have:i=n:=by simpa using h
    subst this;exact ⟨by omega,ht⟩
  ·have:=CA s n i h;exact ⟨by omega,this.2⟩
theorem ME {s:Nat} {h:ae} {K:Value→ae→Prop} (hs:s<1024) (hk:∀v h',EX h h'→NS h' v .i64 ((cD s 10).map fun i:Nat=>(i:Int))→K v h'):ak prog 74 [U s] h K:=by
 refine f74 ?_
 unfold OT
 refine dj (σ:=Nat×Value×ae) (fun p=>[p.2.1,I p.1]) (fun p=>p.2.2) (fun p=>p.1≤10∧EX h p.2.2∧fy h.length p.2.2 3 p.2.1 ((cD s p.1).map fun i:Nat=>I i)) (fun p=>10-p.1)
  (0,.slice none 0 0,h) rfl rfl ⟨zero_le _,EX.refl _,.inl ⟨rfl,rfl⟩⟩ ?_
 rintro ⟨i,v,g⟩ ⟨hi,xg,jt⟩ L hL
 simp only at hi xg jt hL⊢
 have xV:=Fg s i
 rw [aDU]
 simp only [cA,ah,bR]
 refine ⟨fun aD=>?_,fun cJ=>?_⟩
 ·refine XK (by omega) hs ?_
  refine tY (fun ht=>?_) fun ht=>?_
  ·refine DC jt xg (by simp;omega) (by simp [maxLen];omega) rfl rfl ?_
   intro v' g' xg' dS
   simp only [amI,cf,ah,eR i (by omega),true_and]
   refine hL (i+1,v',g') ⟨by show i+1≤10;omega,xg',?_⟩ (by show 10-(i+1)<10-i;omega)
   show fy h.length g' 3 v' ((cD s (i+1)).map fun i:Nat=>I i)
   simp only [cD,ht,if_true,List.map_append,List.map_cons,List.map_nil]
   exact dS
  ·simp only [amI,cf,ah,eR i (by omega),true_and]
   refine hL (i+1,v,g) ⟨by show i+1≤10;omega,xg,?_⟩ (by show 10-(i+1)<10-i;omega)
   show fy h.length g 3 v ((cD s (i+1)).map fun i:Nat=>I i)
   simp only [cD,ht,false_eq_true,if_false]
   exact jt
 ·have fH:i=10:=by omega
  subst fH
  rw [aDT]
  refine hk v g xg ?_
  rcases jt with ⟨h1,h2⟩ | ⟨a,_,h2,h3⟩
  ·have:cD s 10=[]:=by simpa using h2
   rw [this,h1]
   exact NS.nil g .i64
  ·rw [h2,length_map]
   have:=NS.sl (h:=g) (e:=3) (i:=a) (k:=.i64) (ns:=(cD s 10).map fun i:Nat=>(i:Int)) (.inr (by simp [aP,h3])) (by simp [maxLen];omega)
   rw [length_map] at this
   exact this
def rD (js:List (Int×Int)) (l:List Nat):Int:=iR l fun i=>(js.getD i (0,0)).1
theorem anu {α:Type} (f:α→Int) (l:List α) {j:Nat} (hj:j<l.length):iR (l.take (j+1)) f=iR (l.take j) f+f l[j]:=by
 rw [List.take_succ_eq_append_getElem hj,A3]
 simp [iR]
theorem PS.getD {h:ae} {v:Value} {js:List (Int×Int)} (p:PS h v js) {i:Nat} (hi:i<js.length):∃b o,bf 2 v (I i)=some (pt b o)∧af false 1 h (pt b o)=some (I (js.getD i (0,0)).1)∧af false 1 h (pt b (o+1))=some (I (js.getD i (0,0)).2)∧
  af true 2 h (pt b o)=some (.agg #[I (js.getD i (0,0)).1,I (js.getD i (0,0)).2]):=by
 obtain ⟨b,o,g1,g2,g3,g4⟩:=p.get i hi
 have e:js.getD i (0,0)=js[i]:=by simp [getD_eq_getElem?_getD,hi]
 rw [e]
 exact ⟨b,o,g1,g2,g3,g4⟩
def nZ (js:List (Int×Int)):Prop:=∀j∈js,(1≤j.1∧j.1≤50)∧0≤j.2∧j.2≤50
theorem nZ.getD {js:List (Int×Int)} (h:nZ js) {i:Nat} (hi:i<js.length):(1≤(js.getD i (0,0)).1∧(js.getD i (0,0)).1≤50)∧0≤(js.getD i (0,0)).2∧(js.getD i (0,0)).2≤50:=by
 have e:js.getD i (0,0)=js[i]:=by simp [getD_eq_getElem?_getD,hi]
 rw [e];exact h _ (getElem_mem hi)
theorem ans {js:List (Int×Int)} (h:nZ js):∀l:List Nat,(∀i∈l,i<js.length)→0≤rD js l∧rD js l≤50*l.length
 | [],_=>by simp [rD,iR]
 | i::l,hl=>by
  have ih:=ans h l fun x hx=>hl x (by simp [hx])
  have:=h.getD (hl i (by simp))
  unfold rD at ih⊢
  simp only [iR,length_cons]
  omega
theorem Gt {p:Value} {js:List (Int×Int)} {bs:List Nat} {s:Nat} {h:ae} {K:Value→ae→Prop} (hp:PL h p js bs) (hj:nZ js) (hl:js.length≤10) (hs:s<2^js.length) (hk:∀h',EX h h'→K (I (rD js (cD s 10))) h'):ak prog 62 [p,U s] h K:=by
 have aw9:(2:Nat)^js.length≤2^10:=pow_le_pow_right (by decide) hl
 refine f62 (ME (by omega) ?_)
 intro v g xg hn
 obtain ⟨a,vj,vb,rfl,hc,Cc,iW⟩:=hp.mono xg
 have aD:∀i∈cD s 10,i<js.length:=by
  intro i hi
  have h1:=(CA s 10 i hi).2
  apply byContradiction
  intro cJ
  have:s<2^i:=lt_of_lt_of_le hs (pow_le_pow_right (by decide) (by omega))
  rw [Nat.testBit_lt_two_pow this] at h1
  cases h1
 have xV:=Fg s 10
 have Az:bj v=some (I (cD s 10).length):=by have:=hn.len;rwa [length_map] at this
 simp only [Az,ah]
 refine dj (σ:=Nat) (fun i=>[I (rD js ((cD s 10).take i)),I i]) (fun _=>g) (fun i=>i≤(cD s 10).length) (fun i=>(cD s 10).length-i) 0 rfl rfl (zero_le _) ?_
 intro i hi L hL
 rw [aCX]
 simp only [cA,ah,bR]
 refine ⟨fun jZ=>?_,fun cJ=>?_⟩
 ·have bC:i<(cD s 10).length:=by omega
  obtain ⟨b,o,g1,g2⟩:=hn.get i (by simpa using bC)
  have e:((cD s 10).map fun i:Nat=>(i:Int))[i]'(by simpa using bC)=((cD s 10)[i]:Int):=by simp
  rw [e] at g2
  have hm:=aD _ (getElem_mem bC)
  obtain ⟨c,q,r1,r2,r3,r4⟩:=PS.getD Cc hm
  have ld:af false 1 g (pt a 0)=some vj:=by simp [af,hc,b9]
  have bD:rD js ((cD s 10).take (i+1))=rD js ((cD s 10).take i)+(js.getD (cD s 10)[i] (0,0)).1:=by
   exact anu _ _ bC
  have lV:=ans hj ((cD s 10).take (i+1)) fun x hx=>aD x (List.mem_of_mem_take hx)
  rw [List.length_take,bD] at lV
  simp only [g1,g2,ah,AM,bU,add_zero,ld,r1,r2,cf,eR i (by omega)]
  rw [wrap64 (by omega) (by omega),←bD]
  simp only [true_and]
  exact hL (i+1) (by omega) (by omega)
 ·have fH:i=(cD s 10).length:=by omega
  subst fH
  rw [take_length,aCW]
  exact hk g xg
end
end Go.Proofs.YtelmdbpaoifmoaaGreat
namespace Go.Sim
section
def iJ (bs:List Nat) (s i:Nat):Bool:= !s.testBit i&&iQ (bs.getD i 0) s
def bE (n:Nat):Nat:=2^n-1
theorem Fk {s i:Nat} (h:s.testBit i=false):s<s ||| 2^i:=by
 have h1:s≤s ||| 2^i:=Nat.left_le_or
 rcases Nat.lt_or_eq_of_le h1 with h2 | h2
 ·exact h2
 ·exfalso
  have:=congrArg (fun m=>m.testBit i) h2
  simp only [sI] at this
  rw [h] at this
  simp at this
theorem wQ {bs:List Nat} {s i:Nat} (h:iJ bs s i=true):s.testBit i=false:=by
 unfold iJ at h
 rw [and_eq_true] at h
 simpa using h.1
end
section
def fI:Nat→List Nat→Nat
 | s,[]=>s
 | s,i::l=>fI (s ||| 2^i) l
def jL (bs:List Nat) (n:Nat):Nat→List Nat→Bool
 | _,[]=>true
 | s,i::l=>(decide (i<n)&&iJ bs s i)&&jL bs n (s ||| 2^i) l
theorem anm:∀(s:Nat) (l m:List Nat),fI s (l++m)=fI (fI s l) m
 | s,[],m=>rfl
 | s,i::l,m=>by simp only [cons_append,fI,anm _ l m]
theorem aiW (bs:List Nat) (n:Nat):∀(s:Nat) (l m:List Nat),jL bs n s (l++m)=(jL bs n s l&&jL bs n (fI s l) m)
 | s,[],m=>by simp [jL,fI]
 | s,i::l,m=>by simp only [cons_append,jL,fI,aiW bs n _ l m,Bool.and_assoc]
theorem ann {n:Nat}:∀{s:Nat} {l:List Nat},s<2^n→(∀i∈l,i<n)→fI s l<2^n
 | s,[],hs,_=>hs
 | s,i::l,hs,h=>ann (s:=s ||| 2^i) (tN hs (h i (by simp))) fun x hx=>h x (by simp [hx])
theorem AO {bs:List Nat} {n:Nat}:∀{s:Nat} {l:List Nat},jL bs n s l=true→∀i∈l,i<n
 | s,[],_,i,hi=>by simp at hi
 | s,j::l,h,i,hi=>by
  simp only [jL,and_eq_true,decide_eq_true_eq] at h
  rcases mem_cons.1 hi with rfl | hi
  ·exact h.1.1
  ·exact AO h.2 i hi
def di (js:List (Int×Int)) (i:Nat):Int:=(js.getD i (0,0)).1
def fJ (js:List (Int×Int)) (i:Nat):Int:=(js.getD i (0,0)).2
def kO (js:List (Int×Int)):Int→List Nat→Int
 | _,[]=>0
 | now,i::l=>fJ js i*(now+di js i)+kO js (now+di js i) l
def uu (js:List (Int×Int)):Int→List Nat→Int
 | now,[]=>now
 | now,i::l=>uu js (now+di js i) l
theorem ac4 (js:List (Int×Int)):∀(now:Int) (l m:List Nat),kO js now (l++m)=kO js now l+kO js (uu js now l) m
 | now,[],m=>by simp [kO,uu]
 | now,i::l,m=>by simp only [cons_append,kO,uu,ac4 js _ l m];omega
end
section
def ka (s:Nat):Nat→List Nat
 | 0=>[]
 | i+1=>if s.testBit i=true then ka s i++[i] else ka s i
def eO (js:List (Int×Int)) (s:Nat):Int:=iR (ka s 10) (di js)
theorem Kv (js:List (Int×Int)) {s i:Nat} (hi:i<10) (hb:s.testBit i=false):eO js (s ||| 2^i)=eO js s+di js i:=by
 have key:∀m,iR (ka (s ||| 2^i) m) (di js)=iR (ka s m) (di js)+if i<m then di js i else 0:=by
  intro m
  induction m with
  | zero=>simp [ka,iR]
  | succ m ih=>
   simp only [ka,sI]
   by_cases fk:i=m
   ·subst fk
    rw [hb]
    simp only [decide_true,Bool.or_true,if_true,A3,iR,ih]
    simp
   ·have:decide (i=m)=false:=aS fk
    rw [this,Bool.or_false]
    have h2:(if i<m+1 then di js i else 0)=if i<m then di js i else 0:=by
     by_cases h3:i<m
     ·rw [if_pos h3,if_pos (by omega)]
     ·rw [if_neg h3,if_neg (by omega)]
    rw [h2]
    split
    ·simp only [A3,iR,ih];omega
    ·exact ih
 have:=key 10
 rw [if_pos hi] at this
 exact this
theorem Kw (js:List (Int×Int)):eO js 0=0:=by
 have:∀m,ka 0 m=[]:=by
  intro m
  induction m with
  | zero=>rfl
  | succ m ih=>simp [ka,ih]
 unfold eO
 rw [this];rfl
def jO (bs:List Nat) (js:List (Int×Int)) (s:Nat) (g:Nat→Int):Nat→Int
 | 0=> -1
 | i+1=>if iJ bs s i=true then (if jO bs js s g i<0∨fJ js i*(eO js s+di js i)+g i<jO bs js s g i then fJ js i*(eO js s+di js i)+g i else jO bs js s g i) else jO bs js s g i
theorem Pv {bs:List Nat} {js:List (Int×Int)} {s:Nat} {g g':Nat→Int}:∀{m:Nat},(∀i,i<m→iJ bs s i=true→g i=g' i)→jO bs js s g m=jO bs js s g' m
 | 0,_=>rfl
 | m+1,h=>by
  have ih:=Pv (bs:=bs) (js:=js) (s:=s) (g:=g) (g':=g') (m:=m) fun i hi=>h i (by omega)
  simp only [jO,ih]
  split
  ·rename_i hr
   rw [h m (by omega) hr]
  ·rfl
def mh (bs:List Nat) (js:List (Int×Int)) (n:Nat):Nat→Nat→Int
 | 0,_=>0
 | f+1,s=>if s=bE n then 0 else jO bs js s (fun i=>mh bs js n f (s ||| 2^i)) n
theorem agN (bs:List Nat) (js:List (Int×Int)) (n:Nat):∀(f s:Nat),s<2^n→bE n-s≤f→mh bs js n (f+1) s=mh bs js n f s
 | 0,s,hs,hf=>by
  have:s=bE n:=by unfold bE at*;omega
  simp [mh,this]
 | f+1,s,hs,hf=>by
  by_cases he:s=bE n
  ·simp [mh,he]
  ·rw [mh,mh,if_neg he,if_neg he]
   refine Pv fun i hi hr=>?_
   have h1:=Fk (wQ hr)
   exact agN bs js n f _ (tN hs hi) (by unfold bE at*;omega)
def fe (bs:List Nat) (js:List (Int×Int)) (n s:Nat):Int:=mh bs js n (bE n) s
theorem aAg (bs:List Nat) (js:List (Int×Int)) (n:Nat) {s:Nat} (hs:s<2^n) {f:Nat} (h1:bE n-s≤f) (h2:f≤bE n):mh bs js n f s=fe bs js n s:=by
 unfold fe
 obtain ⟨d,hd⟩:∃d,bE n=f+d:=⟨bE n-f,by omega⟩
 have key:∀d,mh bs js n (f+d) s=mh bs js n f s:=by
  intro d
  induction d with
  | zero=>rfl
  | succ d ih=>rw [show f+(d+1)=f+d+1 by omega,agN bs js n (f+d) s hs (by omega),ih]
 rw [hd]
 exact (key d).symm
theorem Kn (bs:List Nat) (js:List (Int×Int)) (n:Nat):fe bs js n (bE n)=0:=by
 unfold fe
 cases h:bE n with
 | zero=>rfl
 | succ f=>rw [mh,if_pos h.symm]
theorem agP (bs:List Nat) (js:List (Int×Int)) (n:Nat) {s:Nat} (hs:s<bE n):fe bs js n s=jO bs js s (fun i=>fe bs js n (s ||| 2^i)) n:=by
 have iF:s<2^n:=by unfold bE at hs;omega
 obtain ⟨f,hf⟩:∃f,bE n=f+1:=⟨bE n-1,by omega⟩
 conv=>lhs;unfold fe;rw [hf,mh,if_neg (by omega)]
 refine Pv fun i hi hr=>?_
 have h1:=Fk (wQ hr)
 exact aAg bs js n (tN iF hi) (by omega) (by omega)
def uY (js:List (Int×Int)):Prop:=∀i,(0≤di js i∧di js i≤50)∧0≤fJ js i∧fJ js i≤50
theorem TO {js:List (Int×Int)} (h:uY js) (s:Nat):0≤eO js s∧eO js s≤500:=by
 have key:∀m,0≤iR (ka s m) (di js)∧iR (ka s m) (di js)≤50*m:=by
  intro m
  induction m with
  | zero=>simp [ka,iR]
  | succ m ih=>
   have:=h m
   simp only [ka]
   split
   ·simp only [A3,iR];omega
   ·omega
 have:=key 10
 unfold eO
 omega
theorem Iu {js:List (Int×Int)} (h:uY js) (s i:Nat):0≤fJ js i*(eO js s+di js i)∧fJ js i*(eO js s+di js i)≤27500:=by
 have h1:=h i
 have h2:=TO h s
 have xW:0≤fJ js i*(eO js s+di js i):=Int.mul_nonneg h1.2.1 (by omega)
 have qM:fJ js i*(eO js s+di js i)≤50*550:=Int.mul_le_mul h1.2.2 (by omega) (by omega) (by omega)
 omega
theorem Pw {bs:List Nat} {js:List (Int×Int)} (h:uY js) {s:Nat} {g:Nat→Int}:∀{m:Nat},(∀i,i<m→iJ bs s i=true→0≤g i)→
  (jO bs js s g m= -1∧∀i,i<m→iJ bs s i=false)∨(0≤jO bs js s g m∧(∃i,i<m∧iJ bs s i=true∧jO bs js s g m=fJ js i*(eO js s+di js i)+g i)∧∀i,i<m→iJ bs s i=true→jO bs js s g m≤fJ js i*(eO js s+di js i)+g i)
 | 0,_=>.inl ⟨rfl,fun i hi=>by omega⟩
 | m+1,hg=>by
  have hc:=(Iu h s m).1
  have ih:=Pw h (bs:=bs) (s:=s) (g:=g) (m:=m) fun i hi=>hg i (by omega)
  by_cases hr:iJ bs s m=true
  ·have hgm:=hg m (by omega) hr
   simp only [jO,hr,if_true]
   rcases ih with ⟨e,dh⟩ | ⟨h0,⟨j,j1,j2,j3⟩,hle⟩
   ·rw [e,if_pos (.inl (by omega))]
    refine .inr ⟨by omega,⟨m,by omega,hr,rfl⟩,fun i hi jF=>?_⟩
    by_cases fk:i=m
    ·subst fk;exact Int.le_refl _
    ·rw [dh i (by omega)] at jF;cases jF
   ·by_cases aD:fJ js m*(eO js s+di js m)+g m<jO bs js s g m
    ·rw [if_pos (.inr aD)]
     refine .inr ⟨by omega,⟨m,by omega,hr,rfl⟩,fun i hi jF=>?_⟩
     by_cases fk:i=m
     ·subst fk;exact Int.le_refl _
     ·have:=hle i (by omega) jF;omega
    ·rw [if_neg (by omega)]
     refine .inr ⟨h0,⟨j,by omega,j2,j3⟩,fun i hi jF=>?_⟩
     by_cases fk:i=m
     ·subst fk;omega
     ·exact hle i (by omega) jF
  ·have qR:iJ bs s m=false:=by simpa using hr
   simp only [jO,qR]
   simp only [false_eq_true,if_false]
   rcases ih with ⟨e,dh⟩ | ⟨h0,⟨j,j1,j2,j3⟩,hle⟩
   ·refine .inl ⟨e,fun i hi=>?_⟩
    by_cases fk:i=m
    ·subst fk;exact qR
    ·exact dh i (by omega)
   ·refine .inr ⟨h0,⟨j,by omega,j2,j3⟩,fun i hi jF=>?_⟩
    by_cases fk:i=m
    ·subst fk;rw [qR] at jF;cases jF
    ·exact hle i (by omega) jF
def vI (bs:List Nat) (n:Nat):Prop:=∀s,s<bE n→∃i,i<n∧iJ bs s i=true
theorem agM {bs:List Nat} {js:List (Int×Int)} (h:uY js) {n:Nat} (hu:vI bs n):∀(f s:Nat),s<2^n→0≤mh bs js n f s∧mh bs js n f s≤27500*f
 | 0,s,hs=>by simp [mh]
 | f+1,s,hs=>by
  rw [mh]
  by_cases he:s=bE n
  ·rw [if_pos he];omega
  ·rw [if_neg he]
   have tz:s<bE n:=by unfold bE at*;omega
   have ih:∀i,i<n→0≤mh bs js n f (s ||| 2^i)∧mh bs js n f (s ||| 2^i)≤27500*f:=fun i hi=>agM h hu f _ (tN hs hi)
   rcases Pw h (bs:=bs) (s:=s) (g:=fun i=>mh bs js n f (s ||| 2^i)) (m:=n) (fun i hi _=>(ih i hi).1) with ⟨_,dh⟩ | ⟨h0,⟨j,j1,j2,j3⟩,_⟩
   ·obtain ⟨i,hi,hr⟩:=hu s tz
    rw [dh i hi] at hr;cases hr
   ·refine ⟨h0,?_⟩
    rw [j3]
    have h1:=Iu h s j
    have h2:=ih j j1
    omega
theorem Km {bs:List Nat} {js:List (Int×Int)} (h:uY js) {n:Nat} (hn:n≤10) (hu:vI bs n) {s:Nat} (hs:s<2^n):0≤fe bs js n s∧fe bs js n s≤30000000:=by
 have:=agM h hu (bE n) s hs
 have xL:(2:Nat)^n≤2^10:=pow_le_pow_right (by decide) hn
 have:bE n≤1023:=by unfold bE;omega
 unfold fe
 omega
theorem agQ {bs:List Nat} {js:List (Int×Int)} (h:uY js) {n:Nat} (hn:n≤10) (hu:vI bs n) {s:Nat} (hs:s<bE n):
  (∃i,i<n∧iJ bs s i=true∧fe bs js n s=fJ js i*(eO js s+di js i)+fe bs js n (s ||| 2^i))∧∀i,i<n→iJ bs s i=true→fe bs js n s≤fJ js i*(eO js s+di js i)+fe bs js n (s ||| 2^i):=by
 have iF:s<2^n:=by unfold bE at hs;omega
 rw [agP bs js n hs]
 rcases Pw h (bs:=bs) (s:=s) (g:=fun i=>fe bs js n (s ||| 2^i)) (m:=n) (fun i hi _=>(Km h hn hu (tN iF hi)).1) with ⟨_,dh⟩ | ⟨_,b,c⟩
 ·obtain ⟨i,hi,hr⟩:=hu s hs
  rw [dh i hi] at hr;cases hr
 ·exact ⟨b,c⟩
theorem agO {bs:List Nat} {js:List (Int×Int)} (h:uY js) {n:Nat} (hn:n≤10) (hu:vI bs n):∀{l:List Nat} {s:Nat},s<2^n→jL bs n s l=true→fI s l=bE n→fe bs js n s≤kO js (eO js s) l
 | [],s,hs,_,he=>by
  have fV:s=bE n:=he
  rw [fV,Kn]
  exact Int.le_refl _
 | i::l,s,hs,aE,he=>by
  simp only [jL,and_eq_true,decide_eq_true_eq] at aE
  obtain ⟨⟨hi,hr⟩,Sm⟩:=aE
  have h1:=Fk (wQ hr)
  have h2:=tN hs hi
  have tz:s<bE n:=by unfold bE;omega
  have h3:=(agQ h hn hu tz).2 i hi hr
  have ih:=agO h hn hu (l:=l) h2 Sm he
  rw [Kv js (by omega) (wQ hr)] at ih
  simp only [kO]
  omega
end
section
def tO (bs:List Nat) (s:Nat):Nat→Nat
 | 0=>s
 | i+1=>if iJ bs (tO bs s i) i=true then tO bs s i ||| 2^i else tO bs s i
def rA (bs:List Nat) (n:Nat):Nat→Nat
 | 0=>0
 | r+1=>tO bs (rA bs n r) n
theorem adR (n:Nat):bE n<2^n:=by
 have:0<2^n:=pow_pos (by decide)
 unfold bE;omega
theorem Vo {bs:List Nat} {s n:Nat} (hs:s<2^n):∀{i:Nat},i≤n→tO bs s i<2^n
 | 0,_=>hs
 | i+1,h=>by
  have ih:=Vo (bs:=bs) hs (i:=i) (by omega)
  simp only [tO]
  split
  ·exact tN ih (by omega)
  ·exact ih
theorem amX (bs:List Nat) (n:Nat):∀r,rA bs n r<2^n
 | 0=>pow_pos (by decide)
 | r+1=>Vo (amX bs n r) (le_refl n)
def BJ (bs:List Nat) (n t:Nat):Prop:=∀s,(∃j,t.testBit j=true∧s.testBit j=false)→∃i,i<n∧iJ bs s i=true
theorem BJ.step {bs:List Nat} {n t i:Nat} (h:BJ bs n t) (hi:i<n) (hr:iJ bs t i=true):BJ bs n (t ||| 2^i):=by
 rintro s ⟨j,h1,h2⟩
 by_cases sk:∃j,t.testBit j=true∧s.testBit j=false
 ·exact h s sk
 ·have EV:∀k,t.testBit k=true→s.testBit k=true:=by
   intro k hk
   cases hs:s.testBit k with
   | true=>rfl
   | false=>exact absurd ⟨k,hk,hs⟩ sk
  rw [sI] at h1
  have eP:i=j:=by
   cases ht:t.testBit j with
   | true=>have:=EV j ht;rw [h2] at this;cases this
   | false=>rw [ht] at h1;simpa using h1
  subst eP
  refine ⟨i,hi,?_⟩
  unfold iJ at hr⊢
  rw [h2,Bool.not_false,Bool.true_and,pH]
  rw [and_eq_true,pH] at hr
  exact fun k hk=>EV k (hr.2 k hk)
theorem alJ {bs:List Nat} {n s:Nat} (h:BJ bs n s):∀{i:Nat},i≤n→BJ bs n (tO bs s i)
 | 0,_=>h
 | i+1,hi=>by
  have ih:=alJ h (i:=i) (by omega)
  simp only [tO]
  split
  ·rename_i hr;exact ih.step (by omega) hr
  ·exact ih
theorem amY (bs:List Nat) (n:Nat):∀r,BJ bs n (rA bs n r)
 | 0=>by rintro s ⟨j,h1,_⟩;simp [rA] at h1
 | r+1=>alJ (amY bs n r) (le_refl n)
theorem vS (n j:Nat):(bE n).testBit j=decide (j<n):=Nat.testBit_two_pow_sub_one n j
theorem awv {n s:Nat} (hs:s<2^n) (h:∀j,j<n→s.testBit j=true):s=bE n:=by
 apply eq_of_testBit_eq
 intro j
 rw [vS]
 by_cases hj:j<n
 ·rw [aU hj,h j hj]
 ·rw [aS hj]
  exact Nat.testBit_lt_two_pow (lt_of_lt_of_le hs (pow_le_pow_right (by decide) (by omega)))
theorem Ku {n s:Nat} (hs:s<bE n):∃j,j<n∧s.testBit j=false:=by
 apply byContradiction
 intro dh
 have:s=bE n:=awv (lt_of_lt_of_le hs (Nat.le_of_lt (adR n))) fun j hj=>by
  cases ht:s.testBit j with
  | true=>rfl
  | false=>exact absurd ⟨j,hj,ht⟩ dh
 omega
theorem arx {bs:List Nat} {n:Nat} (h:rA bs n n=bE n):vI bs n:=by
 intro s hs
 obtain ⟨j,h1,h2⟩:=Ku hs
 have:=amY bs n n
 rw [h] at this
 exact this s ⟨j,by rw [vS];exact aU h1,h2⟩
end
end Go.Sim
namespace Go.Proofs.YtelmdbpaoifmoaaGreat
open Go.Sim
section
def oP (j:Int×Int):Bool:=(decide (1≤j.1)&&decide (j.1≤50))&&(decide (0≤j.2)&&decide (j.2≤50))
def mj (n:Nat) (p:Int×Int):Bool:=(decide (0≤min p.1 p.2)&&decide (max p.1 p.2<n))&& !decide (p.1=p.2)
def rT (js ps:List (Int×Int)):Bool:=((decide (1≤js.length)&&decide (js.length≤10))&&decide (ps.length≤40))&&(js.all oP&&ps.all (mj js.length))
theorem VR (bs:List Nat) (s i:Nat):VQ bs s i=iJ bs s i:=rfl
theorem El (n:Nat):DB n=bE n:=rfl
theorem awU {js ps:List (Int×Int)} (h:rT js ps=true):(1≤js.length∧js.length≤10)∧ps.length≤40∧nZ js:=by
 simp only [rT,and_eq_true,decide_eq_true_eq] at h
 refine ⟨h.1.1,h.1.2,fun j hj=>?_⟩
 have:=all_eq_true.1 h.2.1 j hj
 simp only [oP,and_eq_true,decide_eq_true_eq] at this
 exact this
structure BS (ps:List (Int×Int)) (n:Nat) (bs:List Nat):Prop where
 len:bs.length=n
 lt:∀b∈bs,b<2^n
 bit:∀i,i<n→∀j:Nat,(bs.getD i 0).testBit j=decide (((j:Int),(i:Int))∈ps)
theorem BS.aw1 {ps:List (Int×Int)} {n:Nat} {bs:List Nat} (b:BS ps n bs) (i:Nat):bs.getD i 0<2^n:=by
 by_cases hi:i<bs.length
 ·have:bs.getD i 0=bs[i]:=by simp [getD_eq_getElem?_getD,hi]
  rw [this];exact b.lt _ (getElem_mem hi)
 ·have:bs.getD i 0=0:=by simp only [getD_eq_getElem?_getD];rw [List.getElem?_eq_none (by omega)];rfl
  rw [this];exact pow_pos (by decide)
theorem C59 {vj vp:Value} {js ps:List (Int×Int)} {h:ae} {K:Value→ae→Prop} (hj:PS h vj js) (hp:PS h vp ps) (mQ:js.length≤1000) (j6:ps.length≤1000)
  (eK:rT js ps=false→∀h',EX h h'→K (.tuple #[.pointer none,B false]) h')
  (hk:rT js ps=true→∀p h' bs,EX h h'→PL h' p js bs→BS ps js.length bs→K (.tuple #[p,B (decide (rA bs js.length js.length=bE js.length))]) h'):ak prog 59 [vj,vp] h K:=by
 refine f59 ?_
 simp only [T59,hj.len,ah,cA]
 by_cases c1:1≤js.length
 rotate_left
 ·rw [aU (show (js.length:Int)<1 by omega)]
  simp only [aCU,fw,amw,dZ,ah,amr,Vz,c8]
  exact eK (by unfold rT;rw [aS c1];simp) h (EX.refl _)
 simp only [aS (show ¬(js.length:Int)<1 by omega),aCU,dR,fG,ah]
 by_cases c2:js.length≤10
 rotate_left
 ·rw [aU (show (10:Int)<(js.length:Int) by omega)]
  simp only [amw,cK,ah,amr,fw,Vz,dZ,c8]
  exact eK (by unfold rT;rw [aS c2];simp) h (EX.refl _)
 simp only [aS (show ¬(10:Int)<(js.length:Int) by omega),amw,cK,ah,amr,dR,hp.len,fG]
 by_cases c3:ps.length≤40
 rotate_left
 ·rw [aU (show (40:Int)<(ps.length:Int) by omega)]
  simp only [Vz,cK,ah,c8]
  exact eK (by unfold rT;rw [aS c3];simp) h (EX.refl _)
 simp only [aS (show ¬(40:Int)<(ps.length:Int) by omega),Vz,cK,ah,dF]
 have h1:=c1
 have kQ:=c2
 have h40:=c3
 have rX:rT js ps=(js.all oP&&ps.all (mj js.length)):=by
  unfold rT;rw [aU c1,aU c2,aU c3];simp
 rw [rX] at eK hk
 generalize hn:js.length=n at*
 have xL:(2:Nat)^n≤2^10:=pow_le_pow_right (by decide) kQ
 have hz:∀m,gY [Value.int .u16 0] m=(replicate m 0).map fun b:Nat=>U b:=by
  intro m
  induction m with
  | zero=>rfl
  | succ m ih=>
   have:gY [Value.int .u16 0] (m+1)=Value.int .u16 0::gY [Value.int .u16 0] m:=by simp [gY,List.replicate_succ]
   rw [this,ih,List.replicate_succ];rfl
 have mk:mb 131 2 [.int .u16 0] h (I n) (I n)=some (sl 131 h.length 0 n,h++[.arr 131 ((replicate n 0).map fun b:Nat=>U b)]):=by
  simp only [mb]
  rw [if_pos ⟨by omega,by omega,by omega,by omega⟩,Int.toNat_natCast,hz]
 obtain ⟨t1,t2⟩:=anj hj.len
 have bd:dd [(.slice none 0 0),(.slice none 0 0)] [(0,1,vj),(1,1,sl 131 h.length 0 n)]=some (.agg #[vj,sl 131 h.length 0 n]):=by
  have s1:gr (sl 131 h.length 0 n)=true:=rfl
  have s2:cW (sl 131 h.length 0 n)=[sl 131 h.length 0 n]:=rfl
  simp [dd,rQ,t1,t2,s1,s2,setAt]
 have bx:∀g:ae,bm 162 g (.agg #[vj,sl 131 h.length 0 n])=some (pt g.length 0,g++[.arr 162 [vj,sl 131 h.length 0 n]]):=fun _=>rfl
 simp only [mk,aA,bd,ah,bx,List.length_append,length_cons,List.length_nil,zero_add]
 have k0:(h++[aj.arr 131 ((replicate n 0).map fun b:Nat=>U b)]++[aj.arr 162 [vj,sl 131 h.length 0 n]])[h.length]?=some (.arr 131 ((replicate n 0).map fun b:Nat=>U b)):=by simp
 have k1:(h++[aj.arr 131 ((replicate n 0).map fun b:Nat=>U b)]++[aj.arr 162 [vj,sl 131 h.length 0 n]])[h.length+1]?=some (.arr 162 [vj,sl 131 h.length 0 n]):=by simp
 have x1:EX h (h++[aj.arr 131 ((replicate n 0).map fun b:Nat=>U b)]++[aj.arr 162 [vj,sl 131 h.length 0 n]]):=(EX.append _ _).push _
 generalize h++[aj.arr 131 ((replicate n 0).map fun b:Nat=>U b)]++[aj.arr 162 [vj,sl 131 h.length 0 n]]=hA at k0 k1 x1⊢
 have Eb:∀g:ae,aV 46 [(.int .i64 (0)),(.int .i64 (0))] g=some (pt g.length 0,g++[.arr 46 [I 0,I 0]]):=fun _=>rfl
 have QA:∀g:ae,aV 88 [(.int .i64 (0)),(.int .i64 (0))] g=some (pt g.length 0,g++[.arr 88 [I 0,I 0]]):=fun _=>rfl
 have rC:∀(g:ae) (t:TypeId) (a b:Int),aF 2 (g++[.arr t [I 0,I 0]]) (pt g.length 0) (.agg #[I a,I b])=some (undef,g++[.arr t [I a,I b]]):=by
  intro g t a b
  simp [aF,q9,gr,cW,Value.cells,setAt]
 have hjA:=hj.mono x1
 have di:bj vj=some (I n):=by rw [hj.len,hn]
 simp only [di,ah]
 -- gN kX
 refine dj (σ:=Nat×ae) (fun p=>[I p.1]) (fun p=>p.2) (fun p=>p.1≤n∧EX hA p.2∧(js.take p.1).all oP=true) (fun p=>n-p.1) (0,hA) rfl rfl ⟨zero_le _,EX.refl _,rfl⟩ ?_
 rintro ⟨i,g⟩ ⟨hi,xg,fA⟩ L hL
 simp only at hi xg fA hL⊢
 rw [aHt]
 simp only [cA,ah,bR]
 refine ⟨fun aD=>?_,fun cJ=>?_⟩
 ·have fc:i<js.length:=by omega
  obtain ⟨b,o,g1,g2,g3,g4⟩:=PS.getD (hjA.mono xg) fc
  simp only [g1,g4,ah,Eb,aA,rC]
  have l0:af false 1 (g++[aj.arr 46 [I (js.getD i (0,0)).1,I (js.getD i (0,0)).2]]) (pt g.length 0)=some (I (js.getD i (0,0)).1):=mV rfl
  have l1:af false 1 (g++[aj.arr 46 [I (js.getD i (0,0)).1,I (js.getD i (0,0)).2]]) (pt g.length 1)=some (I (js.getD i (0,0)).2):=mV rfl
  have tA:(js.take (i+1)).all oP=oP (js.getD i (0,0)):=by
   rw [List.take_succ_eq_append_getElem fc,all_append,fA]
   simp [getD_eq_getElem?_getD,fc]
  have mN:oP (js.getD i (0,0))=false→js.all oP=false:=by
   intro hb
   rw [←tA] at hb
   rw [←List.take_append_drop (i+1) js,all_append,hb];rfl
  generalize js.getD i (0,0)=jb at*
  have stop:oP jb=false→K (.tuple #[.pointer none,B false]) (g++[aj.arr 46 [I jb.1,I jb.2]]):=fun hb=>eK (by rw [mN hb];rfl) _ ((x1.trans xg).push _)
  simp only [bU,add_zero,l0,ah,cA]
  by_cases d1:1≤jb.1
  rotate_left
  ·rw [aU (show jb.1<1 by omega)]
   simp only [aCS,fw,ams,dZ,ah,amt,VA,VB,Lh,c8]
   exact stop (by unfold oP;rw [aS d1];rfl)
  simp only [aS (show ¬jb.1<1 by omega),aCS,dR,bU,add_zero,l0,ah,fG]
  by_cases d2:jb.1≤50
  rotate_left
  ·rw [aU (show (50:Int)<jb.1 by omega)]
   simp only [ams,cK,ah,amt,fw,VA,dZ,VB,Lh,c8]
   exact stop (by unfold oP;rw [aS d2];simp)
  simp only [aS (show ¬(50:Int)<jb.1 by omega),ams,cK,ah,amt,dR,bU,zero_add,l1,cA]
  by_cases d3:0≤jb.2
  rotate_left
  ·rw [aU (show jb.2<0 by omega)]
   simp only [VA,cK,ah,VB,fw,Lh,dZ,c8]
   exact stop (by unfold oP;rw [aS d3];simp)
  simp only [aS (show ¬jb.2<0 by omega),VA,cK,ah,VB,dR,bU,zero_add,l1,fG]
  by_cases d4:jb.2≤50
  rotate_left
  ·rw [aU (show (50:Int)<jb.2 by omega)]
   simp only [Lh,cK,ah,c8]
   exact stop (by unfold oP;rw [aS d4];simp)
  simp only [aS (show ¬(50:Int)<jb.2 by omega),Lh,cK,dF,cf,ah,eR i (by omega),true_and]
  exact hL (i+1,_) ⟨by show i+1≤n;omega,xg.push _,by show (js.take (i+1)).all oP=true;rw [tA];unfold oP;rw [aU d1,aU d2,aU d3,aU d4];rfl⟩ (by show n-(i+1)<n-i;omega)
 ·have fH:i=n:=by omega
  have axG:js.all oP=true:=by rw [fH,←hn,take_length] at fA;exact fA
  rw [axG,Bool.true_and] at eK hk
  rw [aHu]
  have kg0:=xg.get k0
  have kg1:=xg.get k1
  have xhg:=x1.trans xg
  simp only [(hp.mono xhg).len,ah]
  -- gN AU
  refine dj (σ:=Nat×List Nat×ae) (fun p=>[I p.1]) (fun p=>p.2.2) (fun p=>p.1≤ps.length∧EX h p.2.2∧p.2.2[h.length]?=some (.arr 131 (p.2.1.map fun b:Nat=>U b))∧p.2.2[h.length+1]?=some (.arr 162 [vj,sl 131 h.length 0 n])∧BS (ps.take p.1) n p.2.1∧(ps.take p.1).all (mj n)=true) (fun p=>ps.length-p.1)
   (0,replicate n 0,g) rfl rfl ⟨zero_le _,xhg,kg0,kg1,⟨by simp,fun b hb=>by rw [(List.mem_replicate.1 hb).2];exact pow_pos (by decide),fun i hi j=>by simp [getD_eq_getElem?_getD,hi]⟩,rfl⟩ ?_
  rintro ⟨m,bs,g2⟩ ⟨hm,iS,q0,q1,iW,JN⟩ L2 gj
  simp only at hm iS q0 q1 iW JN gj⊢
  rw [aHv]
  simp only [cA,ah,bR]
  refine ⟨fun aD=>?_,fun Jw=>?_⟩
  ·have hmp:m<ps.length:=by omega
   obtain ⟨b,o,g1,g3,g4,g5⟩:=(hp.mono iS).get m hmp
   have tA:ps.take (m+1)=ps.take m++[ps[m]]:=List.take_succ_eq_append_getElem hmp
   have SA:(ps.take (m+1)).all (mj n)=mj n ps[m]:=by rw [tA,all_append,JN];simp
   have mN:mj n ps[m]=false→ps.all (mj n)=false:=by
    intro hb
    rw [←SA] at hb
    rw [←List.take_append_drop (m+1) ps,all_append,hb];rfl
   generalize ps[m]=pr at g3 g4 g5 tA SA mN
   obtain ⟨pa,pb⟩:=pr
   simp only at g5
   simp only [g1,g5,ah,QA,aA,rC]
   have l0:af false 1 (g2++[aj.arr 88 [I pa,I pb]]) (pt g2.length 0)=some (I pa):=mV rfl
   have l1:af false 1 (g2++[aj.arr 88 [I pa,I pb]]) (pt g2.length 1)=some (I pb):=mV rfl
   have y:EX g2 (g2++[aj.arr 88 [I pa,I pb]]):=EX.append _ _
   generalize g2++[aj.arr 88 [I pa,I pb]]=g6 at l0 l1 y⊢
   have stop:mj n (pa,pb)=false→K (.tuple #[.pointer none,B false]) g6:=fun hb=>eK (mN hb) _ (iS.trans y)
   simp only [bU,add_zero,zero_add,l0,l1,ah,min2,cA]
   by_cases d1:0≤min pa pb
   rotate_left
   ·rw [aU (show min pa pb<0 by omega)]
    simp only [aCT,fw,amu,dZ,ah,amv,VC,c8]
    exact stop (by unfold mj;rw [aS d1];rfl)
   simp only [aS (show ¬min pa pb<0 by omega),aCT,dR,bU,add_zero,zero_add,l0,l1,ah,agJ,nk]
   by_cases d2:max pa pb<n
   rotate_left
   ·rw [aU (show (n:Int)≤max pa pb by omega)]
    simp only [amu,cK,ah,amv,fw,VC,dZ,c8]
    exact stop (by unfold mj;rw [aS d2];simp)
   simp only [aS (show ¬(n:Int)≤max pa pb by omega),amu,cK,ah,amv,dR,bU,add_zero,zero_add,l0,l1,iT]
   by_cases d3:pa=pb
   ·rw [aU d3]
    simp only [VC,cK,ah,c8]
    exact stop (by unfold mj;simp only;rw [aU d3];simp)
   simp only [aS d3,VC,cK,ah,dF]
   have aE:mj n (pa,pb)=true:=by unfold mj;simp only;rw [aU d1,aU d2,aS d3];rfl
   obtain ⟨a,rfl⟩:∃a:Nat,pa=a:=⟨pa.toNat,by omega⟩
   obtain ⟨c,rfl⟩:∃c:Nat,pb=c:=⟨pb.toNat,by omega⟩
   have B0:a<n∧c<n∧a≠c:=by omega
   have r0:=y.get q0
   have r1:=y.get q1
   have Ff:af false 1 g6 (pt (h.length+1) 1)=some (sl 131 h.length 0 n):=by simp [af,aP,r1,b9]
   have xN:c<bs.length:=by rw [iW.len];omega
   have ldc:af false 1 g6 (pt h.length c)=some (U (bs.getD c 0)):=by
    simp [af,aP,r0,b9,xN,getD_eq_getElem?_getD]
   have lV:=iW.aw1 c
   have zZ:(2:Nat)^a<1024:=lt_of_lt_of_le (Nat.pow_lt_pow_right (by decide) (show a<10 by omega)) (by decide)
   simp only [bU,add_zero,zero_add,AM,ah,Ff,l0,l1,true_and,lP (show c<n by omega),ldc,F5 mX (show a<11 by omega),CH mX (show bs.getD c 0<1024 by omega) zZ]
   rw [oS r0 (by simpa using xN) rfl rfl]
   simp only [aA,cf,ah,eR m (by omega)]
   have es:((bs.map fun b:Nat=>U b).set c (U (bs.getD c 0 ||| 2^a)))=(bs.set c (bs.getD c 0 ||| 2^a)).map fun b:Nat=>U b:=by rw [List.map_set]
   rw [es]
   refine gj (m+1,bs.set c (bs.getD c 0 ||| 2^a),g6.set h.length (.arr 131 ((bs.set c (bs.getD c 0 ||| 2^a)).map fun b:Nat=>U b))) ⟨by show m+1≤ps.length;omega,(iS.trans y).set (le_refl _) _,ck r0,by show (g6.set _ _)[h.length+1]?=_;rw [List.getElem?_set_ne (by omega)];exact r1,?_,by show (ps.take (m+1)).all (mj n)=true;rw [SA];exact aE⟩ (by show ps.length-(m+1)<ps.length-m;omega)
   show BS (ps.take (m+1)) n (bs.set c (bs.getD c 0 ||| 2^a))
   refine ⟨by rw [List.length_set];exact iW.len,?_,?_⟩
   ·intro b hb
    rcases List.mem_or_eq_of_mem_set hb with h9 | h9
    ·exact iW.lt b h9
    ·rw [h9];exact tN lV (by omega)
   ·intro i' hO j
    rw [tA]
    have hgd:(bs.set c (bs.getD c 0 ||| 2^a)).getD i' 0=if c=i' then bs.getD c 0 ||| 2^a else bs.getD i' 0:=by
     simp only [getD_eq_getElem?_getD,List.getElem?_set]
     by_cases hc:c=i'
     ·subst hc;simp [xN]
     ·simp [hc]
    rw [hgd]
    have vY:=iW.bit i' hO j
    by_cases hc:c=i'
    ·subst hc
     rw [if_pos rfl,sI,vY]
     by_cases vX:a=j
     ·subst vX;simp
     ·have h9:¬((j:Int)=(a:Int)):=by omega
      simp [vX,h9]
    ·rw [if_neg hc,vY]
     have h9:¬((i':Int)=(c:Int)):=by omega
     simp [h9]
  ·have RZ:m=ps.length:=by omega
   subst RZ
   rw [take_length] at iW JN
   have Sb:PL g2 (pt (h.length+1) 0) js bs:=by
    refine ⟨h.length+1,vj,sl 131 h.length 0 n,rfl,by simp [aP,q1],hj.mono iS,?_⟩
    have e:n=(bs.map fun b:Nat=>(b:Int)).length:=by rw [length_map,iW.len]
    rw [e]
    refine NS.sl (.inr ?_) (by rw [length_map,iW.len];unfold maxLen;omega)
    simp [aP,q0]
   have zz:∀b∈bs,b<1024:=fun b hb=>lt_of_lt_of_le (iW.lt b hb) xL
   have uB:=iW.len
   rw [aHw]
   -- rounds
   refine dj (σ:=Nat) (fun r=>[U (rA bs n r),I r]) (fun _=>g2) (fun r=>r≤n) (fun r=>n-r) 0 rfl rfl (zero_le _) ?_
   intro r hr L3 hL3
   rw [aHx]
   simp only [cA,ah,bR]
   have hru:=amX bs n r
   refine ⟨fun RX=>?_,fun axt=>?_⟩
   ·refine dj (σ:=Nat) (fun i=>[U (tO bs (rA bs n r) i),I i]) (fun _=>g2) (fun i=>i≤n) (fun i=>n-i) 0 rfl rfl (zero_le _) ?_
    intro i nv L4 hL4
    rw [aHy]
    simp only [cA,ah,bR]
    have hpu:=Vo (bs:=bs) hru nv
    refine ⟨fun aG7=>?_,fun aGY=>?_⟩
    ·have fc:i<n:=by omega
     have zZ:(2:Nat)^i<1024:=lt_of_lt_of_le (Nat.pow_lt_pow_right (by decide) (show i<10 by omega)) (by decide)
     refine MA Sb (by omega) (by omega) (by omega) zz ?_
     rw [VR]
     have nx:=hL4 (i+1) (by show i+1≤n;omega) (by show n-(i+1)<n-i;omega)
     simp only [tO] at nx
     refine tY (fun ya=>?_) fun qS=>?_
     ·rw [if_pos ya] at nx
      simp only [F5 mX (show i<11 by omega),ah,CH mX (show tO bs (rA bs n r) i<1024 by omega) zZ,aCV,cf,eR i (by omega),true_and]
      exact nx
     ·rw [if_neg (by rw [qS];simp)] at nx
      simp only [aCV,cf,ah,eR i (by omega),true_and]
      exact nx
    ·have axz:i=n:=by omega
     subst axz
     simp only [aHz,cf,ah,eR r (by omega),true_and]
     exact hL3 (r+1) (by show r+1≤i;omega) (by show i-(r+1)<i-r;omega)
   ·have hre:r=n:=by omega
    subst hre
    rw [aHA]
    refine Dg Sb (by omega) ?_
    rw [hn]
    simp only [iT,ah]
    have e:decide (((rA bs r r:Nat):Int)=((DB r:Nat):Int))=decide (rA bs r r=bE r):=by
     rw [El,decide_eq_decide];omega
    rw [e]
    exact hk JN _ _ bs iS Sb iW
end
section
def wZ (js:List (Int×Int)) (l:List Nat):Int:=iR l fun i=>(js.getD i (0,0)).2
theorem anw {js:List (Int×Int)} (h:nZ js):∀l:List Nat,(∀i∈l,i<js.length)→0≤wZ js l∧wZ js l≤50*l.length
 | [],_=>by simp [wZ,iR]
 | i::l,hl=>by
  have ih:=anw h l fun x hx=>hl x (by simp [hx])
  have:=h.getD (hl i (by simp))
  unfold wZ at ih⊢
  simp only [iR,length_cons]
  omega
theorem XF {p:Value} {js:List (Int×Int)} {bs:List Nat} {s:Nat} {h:ae} {K:Value→ae→Prop} (hp:PL h p js bs) (hj:nZ js) (hl:js.length≤10) (hs:s<2^js.length) (hk:∀h',EX h h'→K (I (wZ js (cD s 10))) h'):ak prog 76 [p,U s] h K:=by
 have aw9:(2:Nat)^js.length≤2^10:=pow_le_pow_right (by decide) hl
 refine f76 (ME (by omega) ?_)
 intro v g xg hn
 obtain ⟨a,vj,vb,rfl,hc,Cc,iW⟩:=hp.mono xg
 have aD:∀i∈cD s 10,i<js.length:=by
  intro i hi
  have h1:=(CA s 10 i hi).2
  apply byContradiction
  intro cJ
  have:s<2^i:=lt_of_lt_of_le hs (pow_le_pow_right (by decide) (by omega))
  rw [Nat.testBit_lt_two_pow this] at h1
  cases h1
 have xV:=Fg s 10
 have Az:bj v=some (I (cD s 10).length):=by have:=hn.len;rwa [length_map] at this
 simp only [Az,ah]
 refine dj (σ:=Nat) (fun i=>[I (wZ js ((cD s 10).take i)),I i]) (fun _=>g) (fun i=>i≤(cD s 10).length) (fun i=>(cD s 10).length-i) 0 rfl rfl (zero_le _) ?_
 intro i hi L hL
 rw [aDW]
 simp only [cA,ah,bR]
 refine ⟨fun jZ=>?_,fun cJ=>?_⟩
 ·have bC:i<(cD s 10).length:=by omega
  obtain ⟨b,o,g1,g2⟩:=hn.get i (by simpa using bC)
  have e:((cD s 10).map fun i:Nat=>(i:Int))[i]'(by simpa using bC)=((cD s 10)[i]:Int):=by simp
  rw [e] at g2
  have hm:=aD _ (getElem_mem bC)
  obtain ⟨c,q,r1,r2,r3,r4⟩:=PS.getD Cc hm
  have ld:af false 1 g (pt a 0)=some vj:=by simp [af,hc,b9]
  have bD:wZ js ((cD s 10).take (i+1))=wZ js ((cD s 10).take i)+(js.getD (cD s 10)[i] (0,0)).2:=by
   exact anu _ _ bC
  have lV:=anw hj ((cD s 10).take (i+1)) fun x hx=>aD x (List.mem_of_mem_take hx)
  rw [List.length_take,bD] at lV
  simp only [g1,g2,ah,AM,bU,add_zero,ld,r1,r3,cf,eR i (by omega)]
  rw [wrap64 (by omega) (by omega),←bD]
  simp only [true_and]
  exact hL (i+1) (by omega) (by omega)
 ·have fH:i=(cD s 10).length:=by omega
  subst fH
  rw [take_length,aDV]
  exact hk g xg
def tL (f:Nat→Bool):Nat→Nat
 | 0=>0
 | n+1=>if f n=true then tL f n ||| 2^n else tL f n
theorem aiT (f:Nat→Bool):∀n,tL f n<2^n
 | 0=>by simp [tL]
 | n+1=>by
  have h:=aiT f n
  have h2:(2:Nat)^n<2^(n+1):=Nat.pow_lt_pow_right (by decide) (by omega)
  simp only [tL]
  split
  ·exact tN (by omega) (by omega)
  ·omega
theorem aiS (f:Nat→Bool) (j:Nat):∀n,(tL f n).testBit j=(decide (j<n)&&f j)
 | 0=>by simp [tL]
 | n+1=>by
  have h:=aiS f j n
  simp only [tL]
  by_cases hj:n=j
  ·subst hj
   have hf:(tL f n).testBit n=false:=by rw [h];simp
   split
   ·rename_i hn;rw [sI,hf,hn];simp
   ·rename_i hn
    have:f n=false:=by simpa using hn
    rw [hf,this];simp
  ·have e:decide (j<n+1)=decide (j<n):=by rw [decide_eq_decide];omega
   rw [e]
   split
   ·rw [sI,h];simp [hj]
   ·exact h
def pf (ps:List (Int×Int)) (n:Nat):List Nat:=(List.range n).map fun i:Nat=>tL (fun j:Nat=>decide (((j:Int),(i:Int))∈ps)) n
theorem arM (ps:List (Int×Int)) (n:Nat):(pf ps n).length=n:=by simp [pf]
theorem arL (ps:List (Int×Int)) {n i:Nat} (hi:i<n):(pf ps n).getD i 0=tL (fun j:Nat=>decide (((j:Int),(i:Int))∈ps)) n:=by
 simp [pf,getD_eq_getElem?_getD,hi]
theorem BS.uniq {ps:List (Int×Int)} {n:Nat} {bs nL:List Nat} (b:BS ps n bs) (b':BS ps n nL):bs=nL:=by
 apply List.ext_getElem (by rw [b.len,b'.len])
 intro i h1 h2
 have e1:bs[i]=bs.getD i 0:=by simp [getD_eq_getElem?_getD,h1]
 have e2:nL[i]=nL.getD i 0:=by simp [getD_eq_getElem?_getD,h2]
 rw [e1,e2]
 apply eq_of_testBit_eq
 intro j
 have hi:i<n:=by rw [←b.len];exact h1
 rw [b.bit i hi j,b'.bit i hi j]
theorem aAV {n:Nat} {ps:List (Int×Int)} (h:ps.all (mj n)=true) {p:Int×Int} (hp:p∈ps):(0≤p.1∧p.1<n)∧(0≤p.2∧p.2<n)∧p.1≠p.2:=by
 have:=all_eq_true.1 h p hp
 simp only [mj,and_eq_true,decide_eq_true_eq,Bool.not_eq_true',decide_eq_false_iff_not] at this
 omega
theorem BS.of {ps:List (Int×Int)} {n:Nat} (h:ps.all (mj n)=true):BS ps n (pf ps n):=by
 refine ⟨arM ps n,?_,?_⟩
 ·intro b hb
  simp only [pf,mem_map,mem_range] at hb
  obtain ⟨i,_,rfl⟩:=hb
  exact aiT _ n
 ·intro i hi j
  rw [arL ps hi,aiS]
  by_cases hm:((j:Int),(i:Int))∈ps
  ·have:=aAV h hm
   simp only at this
   rw [aU (show j<n by omega),aU hm];rfl
  ·rw [aS hm,Bool.and_false]
def u9 (js ps:List (Int×Int)):Bool:=rT js ps&&decide (rA (pf ps js.length) js.length js.length=bE js.length)
structure Vd (js ps:List (Int×Int)) (n:Nat) (bs:List Nat):Prop where
 hn:js.length=n
 n1:1≤n
 n10:n≤10
 p40:ps.length≤40
 small:nZ js
 AU:ps.all (mj n)=true
 eq:bs=pf ps n
 is:BS ps n bs
 ac:vI bs n
theorem aGa {js ps:List (Int×Int)} (h:u9 js ps=true):Vd js ps js.length (pf ps js.length):=by
 unfold u9 at h
 rw [and_eq_true,decide_eq_true_eq] at h
 obtain ⟨a,b,c⟩:=awU h.1
 have hp:ps.all (mj js.length)=true:=by
  have:=h.1
  simp only [rT,and_eq_true] at this
  exact this.2.2
 exact ⟨rfl,a.1,a.2,b,c,hp,rfl,BS.of hp,arx h.2⟩
theorem Vd.two {js ps:List (Int×Int)} {n:Nat} {bs:List Nat} (v:Vd js ps n bs):2^n≤1024:=pow_le_pow_right (show 0<2 by decide) v.n10
theorem aot {vj vp:Value} {js ps:List (Int×Int)} {h:ae} {K:Value→ae→Prop} (hj:PS h vj js) (hp:PS h vp ps) (mQ:js.length≤1000) (j6:ps.length≤1000)
  (eK:u9 js ps=false→∀p h',EX h h'→K (.tuple #[p,B false]) h')
  (hk:Vd js ps js.length (pf ps js.length)→u9 js ps=true→∀p h',EX h h'→PL h' p js (pf ps js.length)→K (.tuple #[p,B true]) h'):ak prog 59 [vj,vp] h K:=by
 refine C59 hj hp mQ j6 (fun hf h' x=>eK (by unfold u9;rw [hf];rfl) _ h' x) ?_
 intro hf p h' bs x ax0 iW
 have hpa:ps.all (mj js.length)=true:=by
  have:=hf
  simp only [rT,and_eq_true] at this
  exact this.2.2
 obtain rfl:=iW.uniq (BS.of hpa)
 have e:u9 js ps=decide (rA (pf ps js.length) js.length js.length=bE js.length):=by unfold u9;rw [hf];rfl
 rw [←e]
 cases hv:u9 js ps with
 | false=>exact eK hv p h' x
 | true=>exact hk (aGa hv) hv p h' x ax0
end
section
end
end Go.Proofs.YtelmdbpaoifmoaaGreat
namespace Go.Sim
section
def oD (a b:Nat):Nat:=a^^^(a &&& b)
theorem BI (a b j:Nat):(oD a b).testBit j=(a.testBit j&& !b.testBit j):=by
 unfold oD
 rw [Nat.testBit_xor,testBit_and]
 cases a.testBit j <;> cases b.testBit j <;> rfl
theorem adg (a b:Nat):oD a b≤a:=by
 have h:oD a b=a &&& oD a b:=by
  apply eq_of_testBit_eq
  intro j
  rw [testBit_and,BI]
  cases a.testBit j <;> cases b.testBit j <;> rfl
 rw [h]
 exact Nat.and_le_left
theorem adh {a b:Nat}:oD a b=0↔iQ a b=true:=by
 rw [pH]
 constructor
 ·intro h i hi
  have:=congrArg (fun m=>m.testBit i) h
  simp only [BI,Nat.zero_testBit,hi,Bool.true_and] at this
  simpa using this
 ·intro h
  apply eq_of_testBit_eq
  intro j
  rw [BI,Nat.zero_testBit]
  cases hj:a.testBit j with
  | false=>rfl
  | true=>rw [h j hj];rfl
theorem Zu {k:IntKind} (hk:SK k) {a b:Nat} (ha:a<1024) (hb:b<1024):ai .andNot (.int k (a:Int)) (.int k (b:Int))=some (.int k ((oD a b:Nat):Int)):=by
 have e:ai .andNot (.int k (a:Int)) (.int k (b:Int))=some (Value.int k (k.wrap ((BitVec.ofInt k.bits (a:Int) &&& ~~~BitVec.ofInt k.bits (b:Int)).toNat:Int))):=by simp [ai,hZ]
 have h2:(BitVec.ofInt k.bits (a:Int) &&& ~~~BitVec.ofInt k.bits (b:Int))=BitVec.ofInt k.bits (a:Int)^^^(BitVec.ofInt k.bits (a:Int) &&& BitVec.ofInt k.bits (b:Int)):=by
  ext i hi
  simp only [BitVec.getElem_and,BitVec.getElem_not,BitVec.getElem_xor]
  generalize (BitVec.ofInt k.bits (a:Int))[i]=p
  generalize (BitVec.ofInt k.bits (b:Int))[i]=q
  cases p <;> cases q <;> rfl
 rw [e,h2,BitVec.toNat_xor,BitVec.toNat_and,hk.toNat ha,hk.toNat hb]
 have:=adg a b
 unfold oD at this
 rw [hk.wrap (by omega) (by omega)]
 rfl
theorem Zv {a b:Nat}:a &&& b=0↔∀j,a.testBit j=true→b.testBit j=false:=by
 constructor
 ·intro h j hj
  have:=congrArg (fun m=>m.testBit j) h
  simp only [testBit_and,Nat.zero_testBit,hj,Bool.true_and] at this
  exact this
 ·intro h
  apply eq_of_testBit_eq
  intro j
  rw [testBit_and,Nat.zero_testBit]
  cases hj:a.testBit j with
  | false=>rfl
  | true=>rw [h j hj];rfl
end
end Go.Sim
namespace Go.Proofs.YtelmdbpaoifmoaaGreat
open Go.Sim
section
theorem nZ.all {js:List (Int×Int)} (h:nZ js) (i:Nat):(0≤di js i∧di js i≤50)∧0≤fJ js i∧fJ js i≤50:=by
 unfold di fJ
 by_cases hi:i<js.length
 ·have:=h.getD hi;omega
 ·have:js.getD i (0,0)=(0,0):=by
   simp only [getD_eq_getElem?_getD]
   rw [List.getElem?_eq_none (by omega)];rfl
  rw [this];simp
theorem NS.Az {h:ae} {v:Value} {l:List Nat} (p:NS h v .i64 (l.map fun i:Nat=>(i:Int))):bj v=some (I l.length):=by have:=p.len;rwa [length_map] at this
end
section
variable (P : Program) (K : VK)
noncomputable section
variable (p0 x3 s4 x7 x8 x9 lN au xu xv aQ aO bZ cG cM dw jx gA jy tV : Value) (L1 L2 : LQ) (xs : List Value) (h : ae)
def aiv:=bz prog 73 [[],[],[],[0,3,18],[19],[],[],[],[],[],[0,3,4,18,19,27,28],[29],[],[],[],[],[0,3,4,18,19,27,28,29],[0,3,18,19],[0,3],[],[],[0,3],[7,8],[],[],[],[],[0,3,7,8,54],[9],[],[],[],[0,3,7,8,9,10,54,64],[0,3,7,8,9,10,54,64,67],[],[],[],[],[0,3,7,8,9,11,12,13,54,89],[0,3,7,8,9,11,12,13,54,89,92],[],[],[0,3,7,8,9],[7],[]]
@[irreducible] def Ie:=bJ aiv
@[irreducible] def P8:=Ie.r.r.l.r.l.l
@[irreducible] def aci:=Ie.r.r.r
@[irreducible] def acg:=P8.r.r.l.l.r.r.r.l.l
@[irreducible] def acn:=P8.r.r.r
@[irreducible] def P5:=aci.l
@[irreducible] def aug:=acg.r.r.r.l
@[irreducible] def auh:=acn.l
@[irreducible] def P6:=P5.r.l.r.l.l
@[irreducible] def ach:=P5.r.r
@[irreducible] def Ig:=P6.r.l.r.l.r.l.l
@[irreducible] def acj:=P6.r.l.r.r
@[irreducible] def aun:=ach.l
@[irreducible] def ack:=Ig.r.r.l.r.l.l.r.l
@[irreducible] def aui:=Ig.r.r.l.r.l.r
@[irreducible] def P7:=Ig.r.r.l.r.r
@[irreducible] def aum:=acj.l
@[irreducible] def auj:=ack.r.l
@[irreducible] def acm:=P7.r.r.l.l.r.l
@[irreducible] def auk:=P7.r.r.l.r
@[irreducible] def aul:=acm.r.l
theorem k73:aiv=some (110,Ie,[.tmp 2]):=by kernel_rfl
def Bo (_P:Program) (K:VK):ar:=aT [.tmp 2] K
def aqW:ar:=aG (iM P aci (Bo P K)) (Bo P K)
def aqZ:ar:=bO 0 (aqW P K)
def GU:ar:=aG (fun f' aW=>(([0,3,18]:List Nat).map f':List Value)=[p0,x3,aQ]∧L1 (([19]:List Nat).map f') aW) (aqZ P K)
def aq0:ar:=aG (iM P acn (GU P K p0 x3 aQ L1)) (GU P K p0 x3 aQ L1)
def aqS:ar:=bO 1 (aq0 P K p0 x3 aQ L1)
def aqT:ar:=bO 2 (aqS P K p0 x3 aQ L1)
def YN:ar:=aG (fun f' aW=>(([0,3,4,18,19,27,28]:List Nat).map f':List Value)=[p0,x3,s4,aQ,aO,bZ,cG]∧L2 (([29]:List Nat).map f') aW) (aqT P K p0 x3 aQ L1)
def aqU:ar:=aG (iM P ach (Bo P K)) (Bo P K)
def aqV:ar:=bO 4 (aqU P K)
def YO:ar:=aG (fun f' aW=>(([0,3]:List Nat).map f':List Value)=[p0,x3]∧L1 (([7,8]:List Nat).map f') aW) (aqV P K)
def Nj:ar:=bO 5 (YO P K p0 x3 L1)
def aqX:ar:=aG (iM P acj (Nj P K p0 x3 L1)) (Nj P K p0 x3 L1)
def aqY:ar:=bO 6 (aqX P K p0 x3 L1)
def YP:ar:=aG (fun f' aW=>(([0,3,7,8,54]:List Nat).map f':List Value)=[p0,x3,x7,x8,dw]∧L2 (([9]:List Nat).map f') aW) (aqY P K p0 x3 L1)
def Nk:ar:=bO 7 (YP P K p0 x3 x7 x8 dw L1 L2)
def YQ:ar:=aG (iM P P7 (Nk P K p0 x3 x7 x8 dw L1 L2)) (Nk P K p0 x3 x7 x8 dw L1 L2)
def YR:ar:=aG (iM P aui (YQ P K p0 x3 x7 x8 dw L1 L2)) (YQ P K p0 x3 x7 x8 dw L1 L2)
def YS:ar:=bO 8 (Nk P K p0 x3 x7 x8 dw L1 L2)
def YT:ar:=aG (iM P auk (YS P K p0 x3 x7 x8 dw L1 L2)) (YS P K p0 x3 x7 x8 dw L1 L2)
def ak5:Prop:=ay (iM P P8 (GU P K p0 x3 aQ L1)) ([0,3,18]++[19]) ([p0,x3,aQ]++xs) h
def akW:Prop:=ay (iM P acg (YN P K p0 x3 s4 aQ aO bZ cG L1 L2)) ([0,3,4,18,19,27,28]++[29]) ([p0,x3,s4,aQ,aO,bZ,cG]++xs) h
def UY:Prop:=ay (iM P aug (YN P K p0 x3 s4 aQ aO bZ cG L1 L2)) [0,3,4,18,19,27,28,29] [p0,x3,s4,aQ,aO,bZ,cG,cM] h
def akX:Prop:=ay (iM P auh (GU P K p0 x3 aQ L1)) [0,3,18,19] [p0,x3,aQ,aO] h
def akY:Prop:=ay (iM P P5 (Bo P K)) [0,3] [p0,x3] h
def akZ:Prop:=ay (iM P P6 (YO P K p0 x3 L1)) ([0,3]++[7,8]) ([p0,x3]++xs) h
def ak0:Prop:=ay (iM P Ig (YP P K p0 x3 x7 x8 dw L1 L2)) ([0,3,7,8,54]++[9]) ([p0,x3,x7,x8,dw]++xs) h
def ak1:Prop:=ay (iM P ack (YR P K p0 x3 x7 x8 dw L1 L2)) [0,3,7,8,9,10,54,64] [p0,x3,x7,x8,x9,lN,dw,jx] h
def UZ:Prop:=ay (iM P auj (YR P K p0 x3 x7 x8 dw L1 L2)) [0,3,7,8,9,10,54,64,67] [p0,x3,x7,x8,x9,lN,dw,jx,gA] h
def ak2:Prop:=ay (iM P acm (YT P K p0 x3 x7 x8 dw L1 L2)) [0,3,7,8,9,11,12,13,54,89] [p0,x3,x7,x8,x9,au,xu,xv,dw,jy] h
def U2:Prop:=ay (iM P aul (YT P K p0 x3 x7 x8 dw L1 L2)) [0,3,7,8,9,11,12,13,54,89,92] [p0,x3,x7,x8,x9,au,xu,xv,dw,jy,tV] h
def ak3:Prop:=ay (iM P aum (Nj P K p0 x3 L1)) [0,3,7,8,9] [p0,x3,x7,x8,x9] h
def ak4:Prop:=ay (iM P aun (Bo P K)) [7] [x7] h
theorem amF:UY P K p0 x3 s4 aQ aO bZ cG cM L1 L2 h=
 (OP (ai .add cM (.int .i64 (1))) fun og=>
 ([p0,x3,s4,aQ,aO,bZ,cG]:List Value)=[p0,x3,s4,aQ,aO,bZ,cG]∧L2 [og] h):=az (by kernel_rfl)
theorem aDJ (p0 x3 s4 aQ aO bZ cG:Value) (L1 L2:LQ) (cM:Value) (h:ae):akW P K p0 x3 s4 aQ aO bZ cG L1 L2 [cM] h=
 (OP (ai .lss cM cG) fun dC=>
 aR dC
 (OP (bf 1 bZ cM) fun cE=>
 OP (af false 1 h cE) fun cS=>
 OP (ym p0) fun cT=>
 OP (aL 1 cT) fun cR=>
 OP (af false 1 h cR) fun cX=>
 OP (bf 1 cX cS) fun dI=>
 OP (af false 1 h dI) fun eX=>
 OP (dA .u16 s4) fun eG=>
 OP (ai .andNot eX eG) fun eZ=>
 OP (ai .neq eZ (.int .u16 (0))) fun bY=>
 aR bY
 (OP (dA .u16 s4) fun dD=>
 OH (TP (.int .u16) h x3 dD) fun _ z1=>
 UY P K p0 x3 s4 aQ aO bZ cG cM L1 L2 z1)
 (UY P K p0 x3 s4 aQ aO bZ cG cM L1 L2 h))
 (akX P K p0 x3 aQ aO L1 h)):=az (by kernel_rfl)
theorem aDK:akX P K p0 x3 aQ aO L1 h=
 (OP (ai .add aO (.int .i64 (1))) fun fP=>
 ([p0,x3,aQ]:List Value)=[p0,x3,aQ]∧L1 [fP] h):=az (by kernel_rfl)
theorem aDS (p0 x3 aQ:Value) (L1:LQ) (aO:Value) (h:ae):ak5 P K p0 x3 aQ L1 [aO] h=
 (OP (ai .lss aO aQ) fun aX=>
 aR aX
 (OP (dA .u16 aO) fun bu=>
 OH (CE (.int .u16) h x3 bu (.bool true)) fun _ z1=>
 OP (dA .u16 aO) fun cw=>
 ak P 74 [cw] z1 fun bZ z2=>
 OP (bj bZ) fun cG=>
 cQ [(.int .i64 (0))] z2 fun L2 xs hx=>
 akW P K p0 x3 aO aQ aO bZ cG L1 L2 xs hx)
 (akY P K p0 x3 h)):=az (by kernel_rfl)
theorem amG:UZ P K p0 x3 x7 x8 x9 lN dw jx gA L1 L2 h=
 (OP (bQ jx (.bool true) gA) fun gB=>
 aR gB
 (([p0,x3,x7,x8,dw]:List Value)=[p0,x3,x7,x8,dw]∧L2 [x9] h)
 (OP (ai .andNot lN x8) fun iu=>
 ak P 76 [p0,iu] h fun jT z1=>
 ak P 62 [p0,x9] z1 fun jk z2=>
 OP (ai .mul jT jk) fun fK=>
 ak P 76 [p0,x9] z2 fun jV z3=>
 ak P 62 [p0,iu] z3 fun gX z4=>
 OP (ai .mul jV gX) fun sL=>
 OP (ai .eql x9 (.int .u16 (0))) fun om=>
 ak2 P K p0 x3 x7 x8 x9 iu fK sL dw om L1 L2 z4)):=az (by kernel_rfl)
theorem aDO:ak1 P K p0 x3 x7 x8 x9 lN dw jx L1 L2 h=
 (cC jx false
 (OP (ai .eql lN x8) fun gA=>
 UZ P K p0 x3 x7 x8 x9 lN dw jx gA L1 L2 h)
 (UZ P K p0 x3 x7 x8 x9 lN dw jx undef L1 L2 h)):=az (by kernel_rfl)
theorem amH:U2 P K p0 x3 x7 x8 x9 au xu xv dw jy tV L1 L2 h=
 (OP (bQ jy (.bool true) tV) fun kj=>
 aR kj
 (([p0,x3,x7,x8,dw]:List Value)=[p0,x3,x7,x8,dw]∧L2 [au] h)
 (OP (ai .eql xu xv) fun WW=>
 aR WW
 (OP (ai .or x9 au) fun w7=>
 ([p0,x3,x7,x8,dw]:List Value)=[p0,x3,x7,x8,dw]∧L2 [w7] h)
 (([p0,x3,x7,x8,dw]:List Value)=[p0,x3,x7,x8,dw]∧L2 [x9] h))):=az (by kernel_rfl)
theorem aDP:ak2 P K p0 x3 x7 x8 x9 au xu xv dw jy L1 L2 h=
 (cC jy false
 (OP (ai .gtr xu xv) fun tV=>
 U2 P K p0 x3 x7 x8 x9 au xu xv dw jy tV L1 L2 h)
 (U2 P K p0 x3 x7 x8 x9 au xu xv dw jy undef L1 L2 h)):=az (by kernel_rfl)
theorem aDN (p0 x3 x7 x8 dw:Value) (L1 L2:LQ) (x9:Value) (h:ae):ak0 P K p0 x3 x7 x8 dw L1 L2 [x9] h=
 (Dw (AL h dw) fun gP z1=>
 OP (cg 0 gP) fun jj=>
 aR jj
 (OP (Am z1 dw) fun fa=>
 OP (cg 0 fa) fun gu=>
 OP (ai .and gu x8) fun fZ=>
 OP (ai .neq fZ x8) fun kJ=>
 ak1 P K p0 x3 x7 x8 x9 gu dw kJ L1 L2 z1)
 (ak3 P K p0 x3 x7 x8 x9 L1 z1)):=az (by kernel_rfl)
theorem aDQ:ak3 P K p0 x3 x7 x8 x9 L1 h=
 (OH (dK 131 1 [(.int .u16 (0))] h [(0,1,x9)]) fun rF z1=>
 OH (dY 131 1 2 z1 x7 rF) fun m8 z2=>
 OP (ai .or x8 x9) fun Ba=>
 ([p0,x3]:List Value)=[p0,x3]∧L1 [m8,Ba] z2):=az (by kernel_rfl)
theorem aDM (p0 x3:Value) (L1:LQ) (x7 x8:Value) (h:ae):akZ P K p0 x3 L1 [x7,x8] h=
 (ak P 61 [p0] h fun cH z1=>
 OP (ai .neq x8 cH) fun db=>
 aR db
 (OH (Cs z1 x3) fun dw z2=>
 cQ [(.int .u16 (0))] z2 fun L2 xs hx=>
 ak0 P K p0 x3 x7 x8 dw L1 L2 xs hx)
 (ak4 P K x7 z1)):=az (by kernel_rfl)
theorem aDR:ak4 P K x7 h=
 (K x7 h):=az (by kernel_rfl)
theorem aDL:akY P K p0 x3 h=
 (cQ [(.slice none 0 0),(.int .u16 (0))] h fun L1 xs hx=>
 akZ P K p0 x3 L1 xs hx):=az (by kernel_rfl)
def OS:Prop:=
 OH (Cq (.int .u16) h) fun aH z1=>
 ak P 61 [p0] z1 fun bk z2=>
 OP (dA .i64 bk) fun bN=>
 OP (ai .add bN (.int .i64 (1))) fun aQ=>
 cQ [(.int .i64 (0))] z2 fun L1 xs hx=>
 ak5 P K p0 aH aQ L1 xs hx
theorem e73:iM P Ie (aT [.tmp 2] K) (bt [p0]) h=OS P K p0 h:=by kernel_rfl
theorem f73 {K:VK} {p0:Value} {h:ae} (H:OS prog K p0 h):Di prog 73 [p0] h K:=
 au3 k73 (bI rfl) ((e73 prog K p0 h).mpr H)
end
end
end Go.Proofs.YtelmdbpaoifmoaaGreat
namespace Go.Sim
section
def mY (f:Nat→Int) (s:Nat):Nat→Int
 | 0=>0
 | i+1=>mY f s i+if s.testBit i=true then f i else 0
theorem LV (f:Nat→Int) (s:Nat):∀n,iR (ka s n) f=mY f s n
 | 0=>rfl
 | n+1=>by
  simp only [ka,mY]
  split
  ·rw [A3,LV f s n];simp [iR]
  ·rw [LV f s n];simp
theorem Wr (f:Nat→Int) (a b:Nat):∀n,mY f (a ||| b) n+mY f (a &&& b) n=mY f a n+mY f b n
 | 0=>rfl
 | n+1=>by
  have h:=Wr f a b n
  simp only [mY,testBit_or,testBit_and]
  cases a.testBit n <;> cases b.testBit n <;> simp <;> omega
theorem Ws (f:Nat→Int):∀n,mY f 0 n=0
 | 0=>rfl
 | n+1=>by simp [mY,Ws f n]
theorem LW {f:Nat→Int} (h:∀i,0≤f i) (s:Nat):∀n,0≤mY f s n
 | 0=>Int.le_refl 0
 | n+1=>by
  have:=LW h s n
  have:=h n
  simp only [mY]
  split <;> omega
theorem Wq {f:Nat→Int} {c:Int} (h:∀i,0≤f i∧f i≤c) (s:Nat):∀n:Nat,mY f s n≤c*n
 | 0=>by simp [mY]
 | n+1=>by
  have h1:=Wq h s n
  have h2:=h n
  have:c*((n+1:Nat):Int)=c*n+c:=by rw [Int.natCast_add,Int.mul_add];simp
  simp only [mY]
  split <;> omega
theorem anq {f:Nat→Int} (h0:∀i,0≤f i) {s i:Nat} (hb:s.testBit i=true) (h1:1≤f i):∀{n:Nat},i<n→1≤mY f s n
 | n+1,hi=>by
  simp only [mY]
  by_cases e:i=n
  ·subst e
   have:=LW h0 s i
   rw [hb];simp;omega
  ·have:=anq h0 hb h1 (n:=n) (by omega)
   have:=h0 n
   split <;> omega
def rO (bs:List Nat) (n s:Nat):Bool:=(List.range n).all fun i=> !s.testBit i||iQ (bs.getD i 0) s
theorem xC {bs:List Nat} {n s:Nat}:rO bs n s=true↔∀i,i<n→s.testBit i=true→∀j,(bs.getD i 0).testBit j=true→s.testBit j=true:=by
 unfold rO
 rw [all_eq_true]
 constructor
 ·intro h i hi hb
  have:=h i (mem_range.2 hi)
  rw [hb,Bool.not_true,Bool.false_or,pH] at this
  exact this
 ·intro h i hi
  rw [mem_range] at hi
  cases hb:s.testBit i with
  | false=>rfl
  | true=>rw [Bool.not_true,Bool.false_or,pH];exact h i hi hb
structure fF (bs:List Nat) (n d m:Nat):Prop where
 lt:m<2^n
 ne:m≠0
 apart:d &&& m=0
 cl:rO bs n (d ||| m)=true
def lS (js:List (Int×Int)) (s:Nat):Int:=mY (di js) s 10
def wS (js:List (Int×Int)) (s:Nat):Int:=mY (fJ js) s 10
def ow (bs:List Nat) (js:List (Int×Int)) (n d m:Nat):Prop:=fF bs n d m∧∀x,fF bs n d x→wS js x*lS js m≤wS js m*lS js x
def rJ (bs:List Nat) (js:List (Int×Int)) (n d b:Nat):Prop:=ow bs js n d b∧∀m,ow bs js n d m→iQ m b=true
theorem aFH {a b:Nat} (h:iQ a b=true) (k:iQ b a=true):a=b:=by
 rw [pH] at h k
 apply eq_of_testBit_eq
 intro i
 cases ha:a.testBit i with
 | true=>rw [h i ha]
 | false=>
  cases hb:b.testBit i with
  | true=>rw [k i hb] at ha;cases ha
  | false=>rfl
theorem rJ.uniq {bs:List Nat} {js:List (Int×Int)} {n d a b:Nat} (h:rJ bs js n d a) (k:rJ bs js n d b):a=b:=aFH (k.2 a h.1) (h.2 b k.1)
structure pL (js:List (Int×Int)) (n:Nat):Prop where
 l0:∀i,0≤di js i
 l1:∀i,i<n→1≤di js i
 w0:∀i,0≤fJ js i
theorem Pr {s:Nat} (h:s≠0):∃i,s.testBit i=true:=Nat.exists_testBit_of_ne_zero h
theorem BA {s n i:Nat} (hs:s<2^n) (hb:s.testBit i=true):i<n:=by
 apply byContradiction
 intro cJ
 rw [Nat.testBit_lt_two_pow (lt_of_lt_of_le hs (pow_le_pow_right (by decide) (by omega)))] at hb
 cases hb
theorem wH {js:List (Int×Int)} {n s:Nat} (h:pL js n) (hn:n≤10) (hs:s<2^n) (h0:s≠0):1≤lS js s:=by
 obtain ⟨i,hi⟩:=Pr h0
 have fc:=BA hs hi
 exact anq h.l0 hi (h.l1 i fc) (by omega)
theorem arD {d a b:Nat} (ha:d &&& a=0) (hb:d &&& b=0):d &&& (a ||| b)=0:=by
 rw [Zv] at ha hb⊢
 intro j hj
 rw [testBit_or,ha j hj,hb j hj];rfl
theorem fF.or {bs:List Nat} {n d a b:Nat} (ha:fF bs n d a) (hb:fF bs n d b):fF bs n d (a ||| b):=by
 refine ⟨Nat.or_lt_two_pow ha.lt hb.lt,?_,arD ha.apart hb.apart,?_⟩
 ·intro h
  have h1:a≤a ||| b:=Nat.left_le_or
  have:=ha.ne
  omega
 ·have h1:=xC.1 ha.cl
  have h2:=xC.1 hb.cl
  refine xC.2 fun i hi vY j hj=>?_
  rw [testBit_or,testBit_or] at vY⊢
  by_cases hx:(d ||| a).testBit i=true
  ·have:=h1 i hi hx j hj
   rw [testBit_or] at this
   cases hd:d.testBit j <;> cases hA:a.testBit j <;> cases hB:b.testBit j <;> simp_all
  ·have bT:(d ||| b).testBit i=true:=by
    rw [testBit_or] at hx⊢
    cases hd:d.testBit i <;> cases hA:a.testBit i <;> cases hB:b.testBit i <;> simp_all
   have:=h2 i hi bT j hj
   rw [testBit_or] at this
   cases hd:d.testBit j <;> cases hA:a.testBit j <;> cases hB:b.testBit j <;> simp_all
theorem fF.and {bs:List Nat} {n d a b:Nat} (ha:fF bs n d a) (hb:fF bs n d b) (h0:a &&& b≠0):fF bs n d (a &&& b):=by
 refine ⟨Nat.and_lt_two_pow _ hb.lt,h0,?_,?_⟩
 ·have h1:=ha.apart
  rw [Zv] at h1⊢
  intro j hj
  rw [testBit_and,h1 j hj];rfl
 ·have h1:=xC.1 ha.cl
  have h2:=xC.1 hb.cl
  refine xC.2 fun i hi vY j hj=>?_
  rw [testBit_or,testBit_and] at vY⊢
  have q1:(d ||| a).testBit i=true:=by
   rw [testBit_or]
   cases hd:d.testBit i <;> cases hA:a.testBit i <;> cases hB:b.testBit i <;> simp_all
  have q2:(d ||| b).testBit i=true:=by
   rw [testBit_or]
   cases hd:d.testBit i <;> cases hA:a.testBit i <;> cases hB:b.testBit i <;> simp_all
  have r1:=h1 i hi q1 j hj
  have r2:=h2 i hi q2 j hj
  rw [testBit_or] at r1 r2
  cases hd:d.testBit j <;> cases hA:a.testBit j <;> cases hB:b.testBit j <;> simp_all
section
variable {bs : List Nat} {js : List (Int × Int)} {n d : Nat}
theorem Qs {w1 l1 w2 l2 w3 l3:Int} (p1:1≤l1) (p2:1≤l2) (p3:1≤l3) (h:w1*l2≤w2*l1) (k:w2*l3≤w3*l2):w1*l3≤w3*l1:=by
 have h1:w1*l2*l3≤w2*l1*l3:=Int.mul_le_mul_of_nonneg_right h (by omega)
 have h2:w2*l3*l1≤w3*l2*l1:=Int.mul_le_mul_of_nonneg_right k (by omega)
 have e1:w2*l1*l3=w2*l3*l1:=by rw [mul_assoc,Int.mul_comm l1 l3,←mul_assoc]
 have e2:w1*l2*l3=w1*l3*l2:=by rw [mul_assoc,Int.mul_comm l2 l3,←mul_assoc]
 have e3:w3*l2*l1=w3*l1*l2:=by rw [mul_assoc,Int.mul_comm l2 l1,←mul_assoc]
 have h3:w1*l3*l2≤w3*l1*l2:=by omega
 exact Int.le_of_mul_le_mul_right h3 (by omega)
theorem ow.aww {a b:Nat} (ha:ow bs js n d a) (hb:ow bs js n d b):wS js a*lS js b=wS js b*lS js a:=
 Int.le_antisymm (hb.2 a ha.1) (ha.2 b hb.1)
theorem ow.same (P:pL js n) (hn:n≤10) {a b:Nat} (ha:ow bs js n d a) (hb:fF bs n d b) (h:wS js a*lS js b≤wS js b*lS js a):ow bs js n d b:=by
 refine ⟨hb,fun x hx=>?_⟩
 exact Qs (wH P hn hx.lt hx.ne) (wH P hn ha.1.lt ha.1.ne) (wH P hn hb.lt hb.ne) (ha.2 x hx) h
theorem ow.or (P:pL js n) (hn:n≤10) {a b:Nat} (ha:ow bs js n d a) (hb:ow bs js n d b):ow bs js n d (a ||| b):=by
 refine ha.same P hn (ha.1.or hb.1) ?_
 have ew:=Wr (fJ js) a b 10
 have el:=Wr (di js) a b 10
 have e:=ha.aww hb
 have hand:wS js (a &&& b)*lS js a≤wS js a*lS js (a &&& b):=by
  by_cases h0:a &&& b=0
  ·rw [h0]
   have:wS js 0=0:=Ws _ _
   have e2:lS js 0=0:=Ws _ _
   rw [this,e2];simp
  ·exact ha.2 _ (ha.1.and hb.1 h0)
 have e1:wS js (a ||| b)=wS js a+wS js b-wS js (a &&& b):=by unfold wS;omega
 have e2:lS js (a ||| b)=lS js a+lS js b-lS js (a &&& b):=by unfold lS;omega
 rw [e1,e2,Int.mul_sub,Int.mul_add,Int.sub_mul,Int.add_mul]
 omega
theorem awB (P:pL js n) (hn:n≤10) {m:Nat} (hm:fF bs n d m):∃a,ow bs js n d a:=by
 have key:∀k,(∃a,a<k∧fF bs n d a)→∃a,a<k∧fF bs n d a∧∀x,x<k→fF bs n d x→wS js x*lS js a≤wS js a*lS js x:=by
  intro k
  induction k with
  | zero=>rintro ⟨a,h,_⟩;omega
  | succ k ih=>
   rintro ⟨a,ha,hr⟩
   by_cases tm:∃a,a<k∧fF bs n d a
   ·obtain ⟨b,hb,qU,lY⟩:=ih tm
    by_cases hk:fF bs n d k∧wS js b*lS js k<wS js k*lS js b
    ·refine ⟨k,by omega,hk.1,fun x hx yc=>?_⟩
     by_cases E2:x=k
     ·subst E2;exact Int.le_refl _
     ·exact Qs (wH P hn yc.lt yc.ne) (wH P hn qU.lt qU.ne) (wH P hn hk.1.lt hk.1.ne) (lY x (by omega) yc) (Int.le_of_lt hk.2)
    ·refine ⟨b,by omega,qU,fun x hx yc=>?_⟩
     by_cases E2:x=k
     ·subst E2
      apply byContradiction
      intro hc
      exact hk ⟨yc,by omega⟩
     ·exact lY x (by omega) yc
   ·have hak:a=k:=by
     apply byContradiction
     intro bp
     exact tm ⟨a,by omega,hr⟩
    subst hak
    refine ⟨a,by omega,hr,fun x hx yc=>?_⟩
    by_cases E2:x=a
    ·subst E2;exact Int.le_refl _
    ·exact absurd ⟨x,by omega,yc⟩ tm
 obtain ⟨a,_,hr,lY⟩:=key (2^n) ⟨m,hm.lt,hm⟩
 exact ⟨a,hr,fun x hx=>lY x hx.lt hx⟩
structure jB (bs:List Nat) (js:List (Int×Int)) (n d:Nat) (Sn:Nat→Prop) (ba:Nat):Prop where
 rel:ba≠0→fF bs n d ba
 none:ba=0→∀m,Sn m→¬fF bs n d m
 max:∀m,Sn m→ow bs js n d m→ow bs js n d ba∧iQ m ba=true
theorem jB.skip {Sn:Nat→Prop} {ba m:Nat} (h:jB bs js n d Sn ba) (hm:¬fF bs n d m):jB bs js n d (fun x=>Sn x∨x=m) ba:=by
 refine ⟨h.rel,fun hb x hx=>?_,fun x hx lY=>?_⟩
 ·rcases hx with hx | rfl
  ·exact h.none hb x hx
  ·exact hm
 ·rcases hx with hx | rfl
  ·exact h.max x hx lY
  ·exact absurd lY.1 hm
theorem aFK (a:Nat):iQ a a=true:=pH.2 fun _ h=>h
theorem aFI (a b:Nat):iQ a (a ||| b)=true:=pH.2 fun _ h=>by rw [testBit_or,h];rfl
theorem aFJ (a b:Nat):iQ b (a ||| b)=true:=pH.2 fun _ h=>by rw [testBit_or,h];simp
theorem aFL {a b c:Nat} (h:iQ a b=true) (k:iQ b c=true):iQ a c=true:=by
 rw [pH] at h k⊢
 exact fun i hi=>k i (h i hi)
theorem jB.take (_:pL js n) (_:n≤10) {Sn:Nat→Prop} {ba m:Nat} (h:jB bs js n d Sn ba) (hm:fF bs n d m) (hb:ba=0∨wS js ba*lS js m<wS js m*lS js ba):jB bs js n d (fun x=>Sn x∨x=m) m:=by
 refine ⟨fun _=>hm,fun h0=>absurd h0 hm.ne,fun x hx lY=>?_⟩
 rcases hx with hx | rfl
 ·exfalso
  rcases hb with hb | hb
  ·exact h.none hb x hx lY.1
  ·have:=(h.max x hx lY).1.2 m hm
   omega
 ·exact ⟨lY,aFK _⟩
theorem jB.join (P:pL js n) (hn:n≤10) {Sn:Nat→Prop} {ba m:Nat} (h:jB bs js n d Sn ba) (hm:fF bs n d m) (h0:ba≠0) (hb:wS js ba*lS js m=wS js m*lS js ba):jB bs js n d (fun x=>Sn x∨x=m) (ba ||| m):=by
 have hr:=(h.rel h0).or hm
 refine ⟨fun _=>hr,fun h1=>absurd h1 hr.ne,fun x hx lY=>?_⟩
 rcases hx with hx | rfl
 ·obtain ⟨q1,q2⟩:=h.max x hx lY
  exact ⟨q1.or P hn (q1.same P hn hm (Int.le_of_eq hb)),aFL q2 (aFI _ _)⟩
 ·have q1:=lY.same P hn (h.rel h0) (Int.le_of_eq hb.symm)
  exact ⟨q1.or P hn lY,aFJ _ _⟩
theorem jB.pass (_:pL js n) (_:n≤10) {Sn:Nat→Prop} {ba m:Nat} (h:jB bs js n d Sn ba) (hm:fF bs n d m) (h0:ba≠0) (hb:wS js m*lS js ba<wS js ba*lS js m):jB bs js n d (fun x=>Sn x∨x=m) ba:=by
 refine ⟨h.rel,fun h1=>absurd h1 h0,fun x hx lY=>?_⟩
 rcases hx with hx | rfl
 ·exact h.max x hx lY
 ·have:=lY.2 ba (h.rel h0)
  omega
theorem jB.all (P:pL js n) (hn:n≤10) {Sn:Nat→Prop} {ba m:Nat} (h:jB bs js n d Sn ba) (fA:∀x,fF bs n d x→Sn x) (hm:fF bs n d m):rJ bs js n d ba:=by
 obtain ⟨a,ha⟩:=awB P hn hm
 exact ⟨(h.max a (fA a ha.1) ha).1,fun x hx=>(h.max x (fA x hx.1) hx).2⟩
end
end
section
def mH (bs:List Nat) (js:List (Int×Int)) (n:Nat):Nat→List Nat→Prop
 | d,[]=>d=bE n
 | d,b::l=>rJ bs js n d b∧mH bs js n (d ||| b) l
theorem fF.Ku {bs:List Nat} {n m:Nat}:¬fF bs n (bE n) m:=by
 intro h
 obtain ⟨i,hi⟩:=Pr h.ne
 have fc:=BA h.lt hi
 have:(bE n &&& m).testBit i=true:=by rw [testBit_and,vS,hi];simp [fc]
 rw [h.apart] at this
 simp at this
theorem mH.uniq {bs:List Nat} {js:List (Int×Int)} {n:Nat}:∀{l l':List Nat} {d:Nat},mH bs js n d l→mH bs js n d l'→l=l'
 | [],[],_,_,_=>rfl
 | [],b::l',d,h,k=>by
  have h':d=bE n:=h
  subst h'
  exact absurd k.1.1.1 fF.Ku
 | b::l,[],d,h,k=>by
  have k':d=bE n:=k
  subst k'
  exact absurd h.1.1.1 fF.Ku
 | b::l,b'::l',d,h,k=>by
  have e:=h.1.uniq k.1
  subst e
  rw [mH.uniq h.2 k.2]
theorem jB.congr {bs:List Nat} {js:List (Int×Int)} {n d:Nat} {Sn Zi:Nat→Prop} {ba:Nat} (h:jB bs js n d Sn ba) (e:∀x,Zi x→Sn x):jB bs js n d Zi ba:=
 ⟨h.rel,fun hb m hm=>h.none hb m (e m hm),fun m hm=>h.max m (e m hm)⟩
theorem jB.start (bs:List Nat) (js:List (Int×Int)) (n d:Nat) {Sn:Nat→Prop} (h:∀x,¬Sn x):jB bs js n d Sn 0:=
 ⟨fun h0=>absurd rfl h0,fun _ m hm=>absurd hm (h m),fun m hm=>absurd hm (h m)⟩
theorem jB.ex {bs:List Nat} {js:List (Int×Int)} {n d:Nat} (P:pL js n) (hn:n≤10):∀L:List Nat,∃ba,jB bs js n d (fun x=>x∈L) ba
 | []=>⟨0,.start _ _ _ _ fun x hx=>by simp at hx⟩
 | m::L=>by
  obtain ⟨ba,h⟩:=jB.ex P hn L
  have key:∀{b:Nat},jB bs js n d (fun x=>x∈L∨x=m) b→∃ba,jB bs js n d (fun x=>x∈m::L) ba:=
   fun {b} q=>⟨b,q.congr fun x hx=>by rcases mem_cons.1 hx with h | h;exact .inr h;exact .inl h⟩
  by_cases hm:fF bs n d m
  ·by_cases h0:ba=0
   ·exact key (h.take P hn hm (.inl h0))
   ·by_cases c1:wS js ba*lS js m<wS js m*lS js ba
    ·exact key (h.take P hn hm (.inr c1))
    ·by_cases c2:wS js ba*lS js m=wS js m*lS js ba
     ·exact key (h.join P hn hm h0 c2)
     ·exact key (h.pass P hn hm h0 (by omega))
  ·exact key (h.skip hm)
theorem avd {bs:List Nat} {n:Nat} (hb:∀b∈bs,b<2^n):rO bs n (bE n)=true:=by
 rw [xC]
 intro i hi _ j hj
 rw [vS]
 have:bs.getD i 0<2^n:=by
  by_cases h:i<bs.length
  ·have e:bs.getD i 0=bs[i]:=by simp [getD_eq_getElem?_getD,h]
   rw [e];exact hb _ (getElem_mem h)
  ·have e:bs.getD i 0=0:=by simp only [getD_eq_getElem?_getD];rw [List.getElem?_eq_none (by omega)];rfl
   rw [e];exact pow_pos (by decide)
 exact aU (BA this hj)
theorem ai2 {d s:Nat} (h:s &&& d=d):d ||| oD s d=s:=by
 apply eq_of_testBit_eq
 intro i
 have:=congrArg (Nat.testBit · i) h
 simp only [testBit_and] at this
 rw [testBit_or,BI]
 cases hs:s.testBit i <;> cases hd:d.testBit i <;> simp_all
theorem amV {bs:List Nat} {n d s:Nat} (hs:s<2^n) (hc:rO bs n s=true) (h:s &&& d=d) (bp:s≠d):fF bs n d (oD s d):=by
 refine ⟨Nat.lt_of_le_of_lt (adg _ _) hs,fun h0=>?_,?_,by rw [ai2 h];exact hc⟩
 ·apply bp
  have e:=ai2 h
  rw [h0,Nat.or_zero] at e
  exact e.symm
 ·apply eq_of_testBit_eq
  intro i
  rw [testBit_and,BI]
  cases d.testBit i <;> simp
theorem aiU {bs:List Nat} {n d m:Nat} (hd:d<2^n) (h:fF bs n d m):(d ||| m<2^n∧rO bs n (d ||| m)=true)∧((d ||| m) &&& d=d∧d ||| m≠d)∧m=oD (d ||| m) d:=by
 have hb:∀i,m.testBit i=true→d.testBit i=false:=fun i hi=>by
  cases nS:d.testBit i with
  | false=>rfl
  | true=>
   have:(d &&& m).testBit i=true:=by rw [testBit_and,hi,nS];rfl
   rw [h.apart] at this
   simp at this
 refine ⟨⟨Nat.or_lt_two_pow hd h.lt,h.cl⟩,⟨?_,fun he=>?_⟩,?_⟩
 ·apply eq_of_testBit_eq
  intro i
  rw [testBit_and,testBit_or]
  cases d.testBit i <;> simp
 ·obtain ⟨i,hi⟩:=Pr h.ne
  have h2:(d ||| m).testBit i=true:=by rw [testBit_or,hi];simp
  rw [he,hb i hi] at h2
  cases h2
 ·apply eq_of_testBit_eq
  intro i
  rw [BI,testBit_or]
  cases hi:m.testBit i with
  | true=>rw [hb i hi];rfl
  | false=>cases d.testBit i <;> rfl
theorem amU {bs:List Nat} {n d:Nat} (hb:∀b∈bs,b<2^n) (hd:d<bE n):fF bs n d (oD (bE n) d):=by
 have hf:bE n<2^n:=adR n
 refine amV hf (avd hb) ?_ (by omega)
 apply eq_of_testBit_eq
 intro i
 rw [testBit_and,vS]
 cases hi:d.testBit i with
 | false=>simp
 | true=>
  have:=BA (Nat.lt_trans hd hf) hi
  simp [this]
theorem rJ.ex {bs:List Nat} {js:List (Int×Int)} {n d:Nat} (P:pL js n) (hn:n≤10) (hb:∀b∈bs,b<2^n) (hd:d<bE n):∃b,rJ bs js n d b:=by
 obtain ⟨ba,h⟩:=jB.ex (bs:=bs) (d:=d) P hn (List.range (2^n))
 exact ⟨ba,h.all P hn (fun x hx=>mem_range.2 hx.lt) (amU hb hd)⟩
theorem rJ.step {bs:List Nat} {js:List (Int×Int)} {n d b:Nat} (hd:d<2^n) (h:rJ bs js n d b):d<d ||| b∧d ||| b<2^n∧b<2^n:=by
 obtain ⟨⟨h1,_⟩,⟨h2,h3⟩,_⟩:=aiU hd h.1.1
 have hle:d≤d ||| b:=Nat.left_le_or
 exact ⟨by omega,h1,h.1.1.lt⟩
theorem mH.ex {bs:List Nat} {js:List (Int×Int)} {n:Nat} (P:pL js n) (hn:n≤10) (hb:∀b∈bs,b<2^n):∀(k d:Nat),d<2^n→bE n-d≤k→∃l,mH bs js n d l
 | 0,d,hd,h=>⟨[],by show d=bE n;unfold bE at*;omega⟩
 | k+1,d,hd,h=>by
  by_cases e:d=bE n
  ·exact ⟨[],e⟩
  ·obtain ⟨b,hs⟩:=rJ.ex (bs:=bs) (js:=js) P hn hb (show d<bE n by unfold bE at*;omega)
   obtain ⟨h1,h2,h3⟩:=hs.step hd
   obtain ⟨l,hl⟩:=mH.ex P hn hb k (d ||| b) h2 (by omega)
   exact ⟨b::l,hs,hl⟩
theorem mH.lt {bs:List Nat} {js:List (Int×Int)} {n:Nat}:∀{l:List Nat} {d:Nat},d<2^n→mH bs js n d l→∀b∈l,b<2^n
 | [],_,_,_,b,hb=>by simp at hb
 | c::l,d,hd,h,b,hb=>by
  obtain ⟨h1,h2,h3⟩:=h.1.step hd
  rcases mem_cons.1 hb with rfl | hb
  ·exact h3
  ·exact mH.lt h2 h.2 b hb
def jW (bs:List Nat) (n k:Nat):List Nat:=(List.range k).filter (rO bs n)
theorem aoA (bs:List Nat) (n k:Nat):jW bs n (k+1)=if rO bs n k=true then jW bs n k++[k] else jW bs n k:=by
 unfold jW
 rw [List.range_succ,List.filter_append]
 by_cases h:rO bs n k=true
 ·rw [if_pos h];simp [h]
 ·rw [if_neg h];simp [h]
theorem MJ {bs:List Nat} {n k s:Nat} (h:s∈jW bs n k):s<k∧rO bs n s=true:=by
 have:=mem_filter.1 h
 exact ⟨mem_range.1 this.1,this.2⟩
theorem aoz {bs:List Nat} {n k s:Nat} (h1:s<k) (h2:rO bs n s=true):s∈jW bs n k:=mem_filter.2 ⟨mem_range.2 h1,h2⟩
def fv (k:IntKind) (l:List Nat):List (Nat×Value×Value):=l.map fun s=>(s,.int k (s:Int),B true)
theorem Rg (k:IntKind) (a b:Nat):np (.int k (a:Int)) (.int k (b:Int))=decide (a=b):=by
 simp only [np,yo,decide_true,Bool.true_and]
 by_cases h:a=b
 ·rw [aU h,aU (by omega)]
 ·rw [aS h,aS (by omega)]
theorem Vr (k:IntKind) (s:Nat):∀{l:List Nat},s∉l→mm (.int k (s:Int)) (fv k l)=none
 | [],_=>rfl
 | a::l,h=>by
  have h1:s≠a:=fun e=>h (by simp [e])
  have h2:s∉l:=fun e=>h (by simp [e])
  have ih:=Vr k s h2
  show (if np (.int k (s:Int)) (.int k (a:Int))=true then some 0 else (mm (.int k (s:Int)) (fv k l)).map (·+1))=none
  rw [Rg,aS h1,ih]
  rfl
theorem alN (k:IntKind) (s:Nat):∀{l:List Nat},s∉l→mm (.int k (s:Int)) (fv k (l++[s]))=some l.length
 | [],_=>by
  show (if np (.int k (s:Int)) (.int k (s:Int))=true then some 0 else _)=_
  rw [Rg];simp
 | a::l,h=>by
  have h1:s≠a:=fun e=>h (by simp [e])
  have h2:s∉l:=fun e=>h (by simp [e])
  have ih:=alN k s h2
  show (if np (.int k (s:Int)) (.int k (a:Int))=true then some 0 else (mm (.int k (s:Int)) (fv k (l++[s]))).map (·+1))=_
  rw [Rg,aS h1,ih]
  rfl
theorem agF (k:IntKind) (l m:List Nat):fv k (l++m)=fv k l++fv k m:=by simp [fv]
theorem agG (k:IntKind) (l:List Nat):(fv k l).length=l.length:=by simp [fv]
theorem anh (k:IntKind) {s:Nat} {l:List Nat} (h:s∉l):mo s (.int k (s:Int)) (B true) (fv k l)=fv k (l++[s])∧pg s (.int k (s:Int)) (fv k l)=s+1:=by
 unfold mo pg
 rw [Vr k s h,agF]
 exact ⟨rfl,rfl⟩
theorem awx (k:IntKind) {s:Nat} {l:List Nat} (h:s∉l):rP (.int k (s:Int)) (fv k (l++[s]))=fv k l:=by
 unfold rP
 rw [alN k s h]
 simp only
 rw [agF,List.eraseIdx_append_of_length_le (by rw [agG];exact le_refl _),agG]
 simp [fv]
theorem awy (k:IntKind) {s:Nat} {l:List Nat} (h:s∉l):rP (.int k (s:Int)) (fv k l)=fv k l:=by
 unfold rP
 rw [Vr k s h]
theorem adL (k:IntKind) (s:Nat):∀{l:List Nat},s∈l→(fv k l).find? (fun e=>e.1==s)=some (s,.int k (s:Int),B true)
 | a::l,h=>by
  by_cases e:a=s
  ·subst e;simp [fv]
  ·have h2:s∈l:=by rcases mem_cons.1 h with h | h;exact absurd h.symm e;exact h
   have ih:=adL k s h2
   have e2:(a==s)=false:=by simpa using e
   rw [show fv k (a::l)=(a,.int k (a:Int),B true)::fv k l from rfl,List.find?_cons]
   simp only [e2]
   exact ih
theorem aAq {h:ae} {im it c:Nat} {k:IntKind} {l seen:List Nat} (hm:h[im]?=some (.cU (.int k) c (fv k l))) (hi:h[it]?=some (.iter im c seen c)) (hl:∀s∈l,s<c):
  AL h (pt it 0)=some ((if (l.filter fun s=> !seen.contains s).isEmpty=true then [(.tuple #[.bool false],h)] else [])++
   (l.filter fun s=> !seen.contains s).map fun s=>(.tuple #[.bool true,.int k (s:Int),B true],h.set it (.iter im c (seen++[s]) c))):=by
 have e1:(fv k l).filter (fun e=> !seen.contains e.1)=fv k (l.filter fun s=> !seen.contains s):=by
  unfold fv
  rw [List.filter_map]
  rfl
 have p7:∀s∈l.filter (fun s=> !seen.contains s),s<c:=fun s hs=>hl s (mem_filter.1 hs).1
 have e2:∀l':List Nat,(∀s∈l',s<c)→(fv k l').filter (fun e=>decide (e.1<c))=fv k l'∧(fv k l').filter (fun e=>decide (c≤e.1))=[]:=by
  intro l' lX
  refine ⟨List.filter_eq_self.2 ?_,List.filter_eq_nil_iff.2 ?_⟩
  ·intro x hx
   obtain ⟨s,hs,rfl⟩:=mem_map.1 hx
   exact aU (lX s hs)
  ·intro x hx
   obtain ⟨s,hs,rfl⟩:=mem_map.1 hx
   have:=lX s hs
   simp only [decide_eq_true_eq]
   omega
 have e3:(!seen.isEmpty&& !(fv k l).isEmpty&&(fv k l).all fun e=>decide (c≤e.1))=false:=by
  cases l with
  | nil=>simp [fv]
  | cons a l=>
   have:=hl a (by simp)
   have:decide (c≤a)=false:=aS (by omega)
   simp [fv,this]
 simp only [AL,pt,hi,hm,e3,false_eq_true,if_false,e1,(e2 _ p7).1,(e2 _ p7).2,List.append_nil]
 congr 2
 ·cases h1:l.filter (fun s=> !seen.contains s) <;> rfl
 ·unfold fv
  rw [List.map_map]
  rfl
end
end Go.Sim
namespace Go.Proofs.YtelmdbpaoifmoaaGreat
open Go.Sim
section
theorem nZ.pos {js:List (Int×Int)} {n:Nat} (h:nZ js) (hn:js.length=n):pL js n:=
 ⟨fun i=>(h.all i).1.1,fun i hi=>by unfold di;exact (h.getD (by omega)).1.1,fun i=>(h.all i).2.1⟩
theorem Ts (s:Nat):∀n,cD s n=ka s n
 | 0=>rfl
 | n+1=>by simp only [cD,ka,Ts s n]
theorem ant (js:List (Int×Int)) (s:Nat):rD js (cD s 10)=lS js s:=by
 rw [Ts];exact LV (di js) s 10
theorem anx (js:List (Int×Int)) (s:Nat):wZ js (cD s 10)=wS js s:=by
 rw [Ts];exact LV (fJ js) s 10
theorem agc {js:List (Int×Int)} (h:nZ js) (s:Nat):0≤lS js s∧lS js s≤500:=
 ⟨LW (fun i=>(h.all i).1.1) s 10,Wq (c:=50) (fun i=>(h.all i).1) s 10⟩
theorem anM {js:List (Int×Int)} (h:nZ js) (s:Nat):0≤wS js s∧wS js s≤500:=
 ⟨LW (fun i=>(h.all i).2.1) s 10,Wq (c:=50) (fun i=>(h.all i).2) s 10⟩
theorem ag5 {a b:Int} (ha:0≤a∧a≤500) (hb:0≤b∧b≤500):0≤a*b∧a*b≤250000:=by
 have h1:0≤a*b:=Int.mul_nonneg ha.1 hb.1
 have h2:a*b≤500*500:=Int.mul_le_mul ha.2 hb.2 hb.1 (by omega)
 omega
theorem ac3 {s:Nat} (hs:s<32768):dA .u16 (I s)=some (U s):=by
 rw [jY,mX.wrap (by omega) (by omega)]
theorem ave {bs:List Nat} {n s:Nat} (hn:n≤10) (hs:s<2^n):rO bs n s=(cD s 10).all fun i=>iQ (bs.getD i 0) s:=by
 rw [Bool.eq_iff_iff,xC,all_eq_true]
 constructor
 ·intro h i hi
  have h2:=(CA s 10 i hi).2
  rw [pH]
  exact h i (BA hs h2) h2
 ·intro h i hi hb
  have hm:i∈cD s 10:=by
   have key:∀m,i<m→i∈cD s m:=by
    intro m
    induction m with
    | zero=>intro h;omega
    | succ m ih=>
     intro fk
     simp only [cD]
     by_cases e:i=m
     ·subst e;rw [hb];simp
     ·have:=ih (by omega)
      split
      ·exact List.mem_append_left _ this
      ·exact this
   exact key 10 (by omega)
  exact pH.1 (h i hm)
theorem Pd (a b:Nat):decide ((a:Int)=(b:Int))=decide (a=b):=by
 rw [decide_eq_decide];omega
theorem aF5 {g:ae} {im:Nat} {s:Nat} {l:List Nat} (hg:g[im]?=some (.cU (.int .u16) s (fv .u16 l))) (hs:s∉l):CE (.int .u16) g (.map (some im)) (U s) (.bool true)=some (undef,g.set im (.cU (.int .u16) (s+1) (fv .u16 (l++[s])))):=by
 have h1:fz (.int .u16) (U s)=true:=rfl
 simp only [CE,Cr,hg]
 rw [if_pos (by simp [h1,gr]),(anh .u16 hs).1,(anh .u16 hs).2]
 rfl
theorem D7 {g:ae} {im c:Nat} {s:Nat} {es:List (Nat×Value×Value)} (hg:g[im]?=some (.cU (.int .u16) c es)):TP (.int .u16) g (.map (some im)) (U s)=some (.tuple #[],g.set im (.cU (.int .u16) c (rP (U s) es))):=by
 have h1:fz (.int .u16) (U s)=true:=rfl
 simp only [TP,E4,hg]
 rw [if_pos (by simp [h1])]
 rfl
def Dy (d:Nat) (seen:List Nat) (m:Nat):Prop:=∃s∈seen,(s &&& d=d∧s≠d)∧m=oD s d
theorem C73 {p:Value} {js:List (Int×Int)} {bs os:List Nat} {n:Nat} {h:ae} {K:Value→ae→Prop} (hp:PL h p js bs) (hn:js.length=n) (h1:1≤n) (kQ:n≤10) (lJ:nZ js) (uB:bs.length=n) (hb:∀b∈bs,b<2^n)
  (iZ:mH bs js n 0 os) (hk:K (sl 131 h.length 0 os.length) (h++[.arr 131 (os.map fun b:Nat=>U b)])):ak prog 73 [p] h K:=by
 have plain:wO (.arr 131 (os.map fun b:Nat=>U b))=true:=by
  simp only [wO,List.all_map,all_eq_true]
  intro x _;rfl
 refine au4 (V:=fun i=>sl 131 i 0 os.length) (o:=.arr 131 (os.map fun b:Nat=>U b)) (pc.sl 131 0 os.length) plain (f73 ?_) hk
 have xL:(2:Nat)^n≤2^10:=pow_le_pow_right (by decide) kQ
 have two:2≤2^n:=by have:=pow_le_pow_right (show 0<2 by decide) h1;simpa using this
 have zz:∀b∈bs,b<1024:=fun b h=>lt_of_lt_of_le (hb b h) xL
 have EA:bE n+1=2^n:=by unfold bE;omega
 have P:=lJ.pos hn
 unfold OS
 simp only [Cq,aA]
 have hp1:PL (h++[.cU (.int .u16) 0 []]) p js bs:=hp.mono (EX.append _ _)
 refine Dg hp1 (by omega) ?_
 rw [hn,El]
 have wf:IntKind.wrap .i64 ((bE n:Nat):Int)=((bE n:Nat):Int):=wrap64 (by omega) (by omega)
 simp only [jY,wf,ah,cf,eR (bE n) (by omega),EA]
 -- gN aHF aHI can avj first
 refine dj (σ:=Nat×ae) (fun q=>[I q.1]) (fun q=>q.2) (fun q=>q.1≤2^n∧EX h q.2∧q.2[h.length]?=some (.cU (.int .u16) q.1 (fv .u16 (jW bs n q.1)))) (fun q=>2^n-q.1) (0,_) rfl rfl
  ⟨zero_le _,EX.append _ _,by simp [jW,fv]⟩ ?_
 rintro ⟨s,g⟩ ⟨hs,xg,hm⟩ L hL
 simp only at hs xg hm hL⊢
 rw [aDS]
 simp only [cA,ah,bR]
 refine ⟨fun aD=>?_,fun cJ=>?_⟩
 ·have ny:s<2^n:=by omega
  have EL:s∉jW bs n s:=fun hx=>by have:=(MJ hx).1;omega
  simp only [ac3 (show s<32768 by omega),ah,aF5 hm EL,aA]
  have xg1:EX h (g.set h.length (.cU (.int .u16) (s+1) (fv .u16 (jW bs n s++[s])))):=xg.set (le_refl _) _
  have xW:(g.set h.length (.cU (.int .u16) (s+1) (fv .u16 (jW bs n s++[s]))))[h.length]?=some (.cU (.int .u16) (s+1) (fv .u16 (jW bs n s++[s]))):=ck hm
  generalize g.set h.length (.cU (.int .u16) (s+1) (fv .u16 (jW bs n s++[s])))=g1 at xg1 xW⊢
  refine ME (show s<1024 by omega) ?_
  intro v g2 iS zV
  have Az:bj v=some (I (cD s 10).length):=by have:=zV.len;rwa [length_map] at this
  have xV:=Fg s 10
  simp only [Az,ah]
  refine dj (σ:=Nat×ae) (fun q=>[I q.1]) (fun q=>q.2) (fun q=>q.1≤(cD s 10).length∧(CX g2 q.2∧EX h q.2)∧q.2[h.length]?=some (.cU (.int .u16) (s+1) (fv .u16 (if ((cD s 10).take q.1).all (fun i=>iQ (bs.getD i 0) s)=true then jW bs n s++[s] else jW bs n s))))
   (fun q=>(cD s 10).length-q.1) (0,g2) rfl rfl ⟨zero_le _,⟨CX.refl _,xg1.trans iS⟩,by simpa using iS.get xW⟩ ?_
  rintro ⟨k,g3⟩ ⟨RQ,⟨rH,Gp⟩,qg⟩ L2 gj
  simp only at RQ rH Gp qg gj⊢
  rw [aDJ]
  simp only [cA,ah,bR]
  refine ⟨fun RX=>?_,fun axt=>?_⟩
  ·have gF:k<(cD s 10).length:=by omega
   obtain ⟨b,o,r1,r2⟩:=(NS.AJ rH zV).get k (by simpa using gF)
   have e:((cD s 10).map fun i:Nat=>(i:Int))[k]'(by simpa using gF)=((cD s 10)[k]:Int):=by simp
   rw [e] at r2
   have hi:=CA s 10 _ (getElem_mem gF)
   have fc:=BA ny hi.2
   obtain ⟨a,vj,vb,rfl,hc,hj,iW⟩:=hp.mono Gp
   have ld:af false 1 g3 (pt a 1)=some vb:=by simp [af,hc,b9]
   obtain ⟨b2,o2,t1,t2⟩:=NS.ad0 iW (i:=(cD s 10)[k]) (by omega)
   have Ev:bs.getD (cD s 10)[k] 0<1024:=by
    have e3:bs.getD (cD s 10)[k] 0=bs[(cD s 10)[k]]'(by omega):=by simp [getD_eq_getElem?_getD,show (cD s 10)[k]<bs.length by omega]
    rw [e3];exact zz _ (getElem_mem _)
   have arA:=Zu mX Ev (show s<1024 by omega)
   simp only [r1,r2,ah,AM,bU,zero_add,ld,t1,t2,ac3 (show s<32768 by omega),arA,pO]
   have ez:decide (((oD (bs.getD (cD s 10)[k] 0) s:Nat):Int)=0)=iQ (bs.getD (cD s 10)[k] 0) s:=by
    cases hq:iQ (bs.getD (cD s 10)[k] 0) s with
    | true=>exact aU (by have:=adh.2 hq;omega)
    | false=>exact aS (by intro h0;have:=adh.1 (show oD (bs.getD (cD s 10)[k] 0) s=0 by omega);rw [hq] at this;cases this)
   rw [ez]
   have tA:((cD s 10).take (k+1)).all (fun i=>iQ (bs.getD i 0) s)=(((cD s 10).take k).all (fun i=>iQ (bs.getD i 0) s)&&iQ (bs.getD (cD s 10)[k] 0) s):=by
    rw [List.take_succ_eq_append_getElem gF,all_append];simp
   refine tY (fun hq=>?_) fun hq=>?_
   ·have gT:iQ (bs.getD (cD s 10)[k] 0) s=false:=by simpa using hq
    simp only [D7 qg,aA]
    rw [amF]
    simp only [cf,ah,eR k (by omega),true_and]
    refine gj (k+1,_) ⟨by show k+1≤_;omega,⟨rH.trans (CX.mo qg),Gp.set (le_refl _) _⟩,?_⟩ (by show _-(k+1)<_-k;omega)
    rw [tA,gT,Bool.and_false]
    simp only [false_eq_true,if_false]
    rw [ck qg]
    split
    ·rw [awx .u16 EL]
    ·rw [awy .u16 EL]
   ·have gT:iQ (bs.getD (cD s 10)[k] 0) s=true:=by simpa using hq
    rw [amF]
    simp only [cf,ah,eR k (by omega),true_and]
    refine gj (k+1,g3) ⟨by show k+1≤_;omega,⟨rH,Gp⟩,?_⟩ (by show _-(k+1)<_-k;omega)
    rw [tA,gT,Bool.and_true]
    exact qg
  ·have tj:k=(cD s 10).length:=by omega
   subst tj
   rw [take_length,←ave kQ ny,←aoA] at qg
   rw [aDK]
   simp only [cf,ah,eR s (by omega),true_and]
   exact hL (s+1,g3) ⟨by show s+1≤_;omega,Gp,qg⟩ (by show _-(s+1)<_-s;omega)
 ·have Sx:s=2^n:=by omega
  subst Sx
  rw [aDL]
  -- one set after gN other
  refine dj (σ:=Nat×List Nat×Value×ae) (fun q=>[q.2.2.1,U q.1]) (fun q=>q.2.2.2) (fun q=>q.1<2^n∧(∀r,mH bs js n q.1 r→mH bs js n 0 (q.2.1++r))∧q.2.1.length≤q.1∧
    (EX h q.2.2.2∧q.2.2.2[h.length]?=some (.cU (.int .u16) (2^n) (fv .u16 (jW bs n (2^n)))))∧fy (h.length+1) q.2.2.2 131 q.2.2.1 (q.2.1.map fun b:Nat=>U b)) (fun q=>2^n-q.1)
   (0,[],.slice none 0 0,g) rfl rfl ⟨by show 0<2^n;omega,fun r hr=>hr,le_refl _,⟨xg,hm⟩,.inl ⟨rfl,rfl⟩⟩ ?_
  rintro ⟨d,out,vo,g2⟩ ⟨hd,Sy,hX,⟨iS,qM⟩,own⟩ L1 hL1
  simp only at hd Sy hX iS qM own hL1⊢
  rw [aDM]
  refine Dg (hp.mono iS) (by omega) ?_
  rw [hn,El]
  simp only [pO,ah,Pd]
  refine tY (fun bp=>?_) fun heq=>?_
  ·have hdf:d<bE n:=by simp at bp;omega
   have g2l:h.length<g2.length:=(bL qM).1
   have rg:Cs g2 (.map (some h.length))=some (pt g2.length 0,g2++[.iter h.length (2^n) [] (2^n)]):=by
    simp only [Cs,qM]
   simp only [rg,aA]
   have xi:EX g2 (g2++[.iter h.length (2^n) [] (2^n)]):=EX.append _ _
   have gi:(g2++[aj.iter h.length (2^n) [] (2^n)])[g2.length]?=some (.iter h.length (2^n) [] (2^n)):=by simp
   generalize g2++[aj.iter h.length (2^n) [] (2^n)]=g3 at xi gi⊢
   refine dj (σ:=Nat×List Nat×ae) (fun q=>[U q.1]) (fun q=>q.2.2) (fun q=>q.1<2^n∧(∀s∈q.2.1,s∈jW bs n (2^n))∧jB bs js n d (Dy d q.2.1) q.1∧EX g2 q.2.2∧q.2.2[g2.length]?=some (.iter h.length (2^n) q.2.1 (2^n)))
    (fun q=>((jW bs n (2^n)).filter fun s=> !q.2.1.contains s).length) (0,[],g3) rfl rfl ⟨by show 0<2^n;omega,fun s hs=>by simp at hs,.start _ _ _ _ (fun x ⟨s,hs,_⟩=>by simp at hs),xi,gi⟩ ?_
   rintro ⟨ba,seen,g4⟩ ⟨zB,afi,ye,yD,Jy⟩ L2 gj
   simp only at zB afi ye yD Jy gj⊢
   rw [aDN]
   have hm4:=yD.get qM
   rw [aAq hm4 Jy (fun s hs=>(MJ hs).1),arw]
   intro pr Aa
   rcases mem_append.1 Aa with Aa | Aa
   ·-- all aGb seen
    split at Aa
    ·rename_i axn
     have:pr=(.tuple #[.bool false],g4):=by simpa using Aa
     subst this
     have x0:cg 0 (.tuple #[Value.bool false])=some (.bool false):=rfl
     simp only [x0,ah,dF]
     have fA:∀x,fF bs n d x→Dy d seen x:=by
      intro x hx
      obtain ⟨⟨c1,c2⟩,c3,c4⟩:=aiU hd hx
      refine ⟨d ||| x,?_,c3,c4⟩
      have RZ:=aoz c1 c2
      apply byContradiction
      intro zV
      have:(d ||| x)∈(jW bs n (2^n)).filter fun s=> !seen.contains s:=mem_filter.2 ⟨RZ,by simpa using zV⟩
      rw [List.isEmpty_iff.1 axn] at this
      simp at this
     have hS:=ye.all P kQ fA (amU hb hdf)
     obtain ⟨s1,s2,s3⟩:=hS.step hd
     rw [aDQ]
     have ai6:fy (h.length+1) g4 131 vo (out.map fun b:Nat=>U b):=own.ep fun d' n' hv nR=>by
      have:=(own.lt hv).2.1
      exact yD.2 d' this
     have xh4:=iS.trans yD
     refine G6 ai6 (by simp;omega) (by simp [maxLen];omega) rfl rfl ?_
     intro w1 bT _ hlen lI j5
     simp only [aA,CH mX (show d<1024 by omega) (show ba<1024 by omega),ah,true_and]
     have g4l:g2.length≤g4.length:=yD.1
     have ep:∀d',d'<g4.length→d'<h.length+1→bT[d']?=g4[d']?:=fun d' nR eQ=>lI d' nR fun n' hv=>by
      have:=(ai6.lt hv).1
      omega
     refine hL1 (d ||| ba,out++[ba],sl 131 (g4.length+1) 0 ((out.map fun b:Nat=>U b).length+1),bT) ⟨s2,?_,?_,⟨?_,?_⟩,?_⟩ (by show _-(d ||| ba)<_-d;omega)
     ·intro r hr
      have:=Sy (ba::r) ⟨hS,hr⟩
      simpa using this
     ·show (out++[ba]).length≤d ||| ba
      simp;omega
     ·refine ⟨by have:=xh4.1;show h.length≤bT.length;omega,fun i hi=>?_⟩
      rw [ep i (by omega) (by omega)]
      exact xh4.2 i hi
     ·show bT[h.length]?=_
      rw [ep h.length (by omega) (by omega)]
      exact hm4
     ·refine .inr ⟨g4.length+1,by show h.length+1≤_;omega,?_,?_⟩
      ·show sl 131 (g4.length+1) 0 _=sl 131 (g4.length+1) 0 _
       simp
      ·show bT[g4.length+1]?=_
       rw [j5];simp
    ·simp at Aa
   ·obtain ⟨s,tz,rfl⟩:=mem_map.1 Aa
    obtain ⟨Sv,hsn⟩:=mem_filter.1 tz
    obtain ⟨ayr,ayn⟩:=MJ Sv
    have x0:cg 0 (.tuple #[Value.bool true,.int .u16 (s:Int),B true])=some (.bool true):=rfl
    simp only [x0,ah,c8]
    have nG:EX g2 (g4.set g2.length (.iter h.length (2^n) (seen++[s]) (2^n))):=yD.set (le_refl _) _
    have Rf:(g4.set g2.length (.iter h.length (2^n) (seen++[s]) (2^n)))[g2.length]?=some (.iter h.length (2^n) (seen++[s]) (2^n)):=ck Jy
    generalize g4.set g2.length (.iter h.length (2^n) (seen++[s]) (2^n))=g5 at nG Rf⊢
    have hm5:=nG.get qM
    have en:Am g5 (pt g2.length 0)=some (.tuple #[U s,B true]):=by
     simp only [Am,pt,Rf,hm5,List.getLast?_append,List.getLast?_singleton,Option.some_or,if_true]
     rw [adL .u16 s Sv]
     rfl
    have ayo:∀x∈seen++[s],x∈jW bs n (2^n):=by
     intro x hx
     rcases mem_append.1 hx with hx | hx
     ·exact afi x hx
     ·have:x=s:=by simpa using hx
      subst this;exact Sv
    have axS:((jW bs n (2^n)).filter fun x=> !(seen++[s]).contains x).length<((jW bs n (2^n)).filter fun x=> !seen.contains x).length:=by
     have e1:(jW bs n (2^n)).filter (fun x=> !(seen++[s]).contains x)=((jW bs n (2^n)).filter fun x=> !seen.contains x).filter fun x=> !decide (x=s):=by
      rw [List.filter_filter]
      congr 1
      funext x
      rw [List.contains_eq_any_beq,List.contains_eq_any_beq,List.any_append]
      by_cases qk:x=s
      ·subst qk;simp
      ·have:(s==x)=false:=by simpa using fun h=>qk h.symm
       simp [qk]
     rw [e1]
     exact List.length_filter_lt_length_iff_exists.2 ⟨s,tz,by simp⟩
    simp only [en,ah,dX,eD,Zt mX (show s<1024 by omega) (show d<1024 by omega),pO,Pd]
    rw [aDO]
    have finish:∀(b':Nat) (g6:ae),b'<2^n→jB bs js n d (Dy d (seen++[s])) b'→EX g5 g6→L2 [U b'] g6:=fun b' g6 kR ays x6=>
     gj (b',seen++[s],g6) ⟨kR,ayo,ays,nG.trans x6,x6.get Rf⟩ axS
    by_cases c1:s &&& d=d
    rotate_left
    ·rw [aS c1]
     simp only [Bool.not_false,fw]
     rw [amG]
     simp only [dZ,ah,c8,true_and]
     refine finish ba g5 zB (ye.congr ?_) (EX.refl _)
     rintro x ⟨s',dT,c3,c4⟩
     rcases mem_append.1 dT with dT | dT
     ·exact ⟨s',dT,c3,c4⟩
     ·have:s'=s:=by simpa using dT
      subst this;exact absurd c3.1 c1
    rw [aU c1]
    simp only [Bool.not_true,dR,iT,ah,Pd]
    rw [amG]
    by_cases c2:s=d
    ·rw [aU c2]
     simp only [cK,ah,c8,true_and]
     refine finish ba g5 zB (ye.congr ?_) (EX.refl _)
     rintro x ⟨s',dT,c3,c4⟩
     rcases mem_append.1 dT with dT | dT
     ·exact ⟨s',dT,c3,c4⟩
     ·have:s'=s:=by simpa using dT
      subst this;exact absurd c2 c3.2
    rw [aS c2]
    have hR:=amV ayr ayn c1 c2
    simp only [cK,ah,dF,Zu mX (show s<1024 by omega) (show d<1024 by omega)]
    generalize JD:oD s d=m at hR⊢
    have EJ:=hR.lt
    have Jq:∀x,Dy d (seen++[s]) x→Dy d seen x∨x=m:=by
     rintro x ⟨s',dT,c3,c4⟩
     rcases mem_append.1 dT with dT | dT
     ·exact .inl ⟨s',dT,c3,c4⟩
     ·have:s'=s:=by simpa using dT
      subst this;exact .inr (by rw [c4,JD])
    have Cf:PL g5 p js bs:=hp.mono (iS.trans nG)
    refine XF Cf lJ (by omega) (by rw [hn];exact EJ) fun g6 x6=>?_
    refine Gt (Cf.mono x6) lJ (by omega) (by rw [hn];exact zB) fun g7 x7=>?_
    rw [anx,ant]
    have bA:=ag5 (anM lJ m) (agc lJ ba)
    have bB:=ag5 (anM lJ ba) (agc lJ m)
    have fa:=x6.trans x7
    simp only [ue,ah,wrap64 (show -9223372036854775808≤wS js m*lS js ba by omega) (show wS js m*lS js ba<9223372036854775808 by omega)]
    refine XF (Cf.mono fa) lJ (by omega) (by rw [hn];exact zB) fun g8 x8=>?_
    refine Gt (Cf.mono (fa.trans x8)) lJ (by omega) (by rw [hn];exact EJ) fun g9 x9=>?_
    rw [anx,ant]
    have fU:=(fa.trans x8).trans x9
    have ez:decide (((ba:Nat):Int)=0)=decide (ba=0):=by rw [decide_eq_decide];omega
    simp only [ue,ah,wrap64 (show -9223372036854775808≤wS js ba*lS js m by omega) (show wS js ba*lS js m<9223372036854775808 by omega),iT,ez]
    rw [aDP]
    by_cases b0:ba=0
    ·rw [aU b0]
     simp only [fw]
     rw [amH]
     simp only [dZ,ah,c8,true_and]
     exact finish m g9 EJ ((ye.take P kQ hR (.inl b0)).congr Jq) fU
    rw [aS b0]
    simp only [dR,fG,ah]
    rw [amH]
    by_cases c3:wS js ba*lS js m<wS js m*lS js ba
    ·rw [aU c3]
     simp only [cK,ah,c8,true_and]
     exact finish m g9 EJ ((ye.take P kQ hR (.inr c3)).congr Jq) fU
    rw [aS c3]
    simp only [cK,ah,dF,iT]
    by_cases c4:wS js ba*lS js m=wS js m*lS js ba
    ·rw [aU c4.symm]
     simp only [c8,CH mX (show ba<1024 by omega) (show m<1024 by omega),ah,true_and]
     exact finish _ g9 (Nat.or_lt_two_pow zB EJ) ((ye.join P kQ hR b0 c4).congr Jq) fU
    ·rw [aS (fun h=>c4 h.symm)]
     simp only [dF,true_and]
     exact finish ba g9 zB ((ye.pass P kQ hR b0 (by omega)).congr Jq) fU
  ·have Ry:d=bE n:=by simpa using heq
   rw [aDR]
   have e:=mH.uniq (Sy [] Ry) iZ
   rw [List.append_nil] at e
   subst e
   have bp:out≠[]:=by
    rintro rfl
    have h0:(0:Nat)=bE n:=iZ
    omega
   refine ⟨iS,?_⟩
   rcases own with ⟨_,h2⟩ | ⟨i,i1,i2,i3⟩
   ·exact absurd (by simpa using h2) bp
   ·exact ⟨i,by omega,i3,by rw [i2,length_map]⟩
end
section
def aiX (h:ae) (i:Nat):Bool:=
 match aP h i with
 | some [.slice (some ⟨a,0,some _⟩) 2 2,.slice (some ⟨b,0,some _⟩) 2 2]=>
  (match aP h a with | some xs=>yA xs [I 3,I 1,I 1,I 1] | none=>false)&&(match aP h b with | some ys=>yA ys [U 0,U 1] | none=>false)
 | _=>false
noncomputable def rr:lF:=fun t args h=>
 match t with
 | .func 73=>
  match args with
  | [.pointer (some ⟨i,0,none⟩)]=>if aiX h i=true then some (sl 131 h.length 0 1,h++[.arr 131 [U 3]]) else none
  | _=>none
 | _=>none
theorem aFs:mH [0,1] [(3,1),(1,1)] 2 0 [3]:=by
 have Zr:∀x,x<2^2→x=0∨x=1∨x=2∨x=3:=by intro x hx;omega
 have e1:wS [(3,1),(1,1)] 1=1∧lS [(3,1),(1,1)] 1=3:=by decide
 have e3:wS [(3,1),(1,1)] 3=2∧lS [(3,1),(1,1)] 3=4:=by decide
 refine ⟨⟨⟨⟨by decide,by decide,by decide,by decide⟩,fun x hx=>?_⟩,fun m hm=>?_⟩,by show (0 ||| 3)=bE 2;decide⟩
 ·rcases Zr x hx.lt with rfl | rfl | rfl | rfl
  ·exact absurd rfl hx.ne
  ·rw [e1.1,e1.2,e3.1,e3.2];decide
  ·have:=hx.cl
   revert this
   decide
  ·exact Int.le_refl _
 ·rcases Zr m hm.1.lt with rfl | rfl | rfl | rfl <;> decide
theorem aAO:sR prog rr:=by
 constructor
 ·intro F args h v h' he
  simp only [rr] at he
  split at he
  ·rename_i hF
   injection hF with hF
   subst hF
   split at he
   ·rename_i i
    split at he
    ·rename_i aE
     simp only [Option.some.injEq,Prod.mk.injEq] at he
     obtain ⟨rfl,rfl⟩:=he
     unfold aiX at aE
     split at aE
     ·rename_i hc
      rename_i a ea b eb
      rw [and_eq_true] at aE
      obtain ⟨ha,hb⟩:=aE
      split at ha
      ·rename_i xs hx
       split at hb
       ·rename_i ys hy
        have bT:=C2 ha
        have qX:=C2 hb
        subst bT qX
        have j6:PL h (pt i 0) [(3,1),(1,1)] [0,1]:=by
         refine ⟨i,_,_,rfl,hc,?_,?_⟩
         ·exact PS.sl (e:=ea) (i:=a) (ps:=[(3,1),(1,1)]) hx
         ·exact NS.sl (e:=eb) (i:=b) (k:=.u16) (ns:=[0,1]) (.inr hy) (by decide)
        have rW:=C73 (os:=[3]) (n:=2) (K:=fun v aW=>v=sl 131 h.length 0 1∧aW=h++[.arr 131 [U 3]]) j6 rfl (by decide) (by decide)
         (by intro j hj;rcases mem_cons.1 hj with rfl | hj;decide;rcases mem_cons.1 hj with rfl | hj;decide;simp at hj) rfl (by intro b hb;rcases mem_cons.1 hb with rfl | hb;decide;rcases mem_cons.1 hb with rfl | hb;decide;simp at hb) aFs ⟨rfl,rfl⟩
        rw [vD] at rW
        obtain ⟨v,h',Rs,rfl,rfl⟩:=rW
        exact Rs
       ·cases hb
      ·cases ha
     ·cases aE
    ·cases he
   ·cases he
  ·cases he
 ·intro i args h v h' he
  simp only [rr] at he
  cases he
end
end Go.Proofs.YtelmdbpaoifmoaaGreat
namespace Go.Sim
section
def AZ (f:Nat→Option Nat) (v:Value):Option Value:=
 match v with
 | .pointer (some ⟨i,o,none⟩)=>match f i with | some j=>some (.pointer (some ⟨j,o,none⟩)) | none=>none
 | .slice (some ⟨i,o,some e⟩) n c=>match f i with | some j=>some (.slice (some ⟨j,o,some e⟩) n c) | none=>none
 | v=>match fW v with | true=>some v | false=>none
def wR (f:Nat→Option Nat):List Value→Option (List Value)
 | []=>some []
 | v::vs=>match AZ f v with
  | some u=>match wR f vs with | some us=>some (u::us) | none=>none
  | none=>none
def Ln (f:Nat→Option Nat) (v:Value):Option Value:=
 match v with
 | .agg xs=>match wR f xs.toList with | some ys=>some (.agg ys.toArray) | none=>none
 | v=>AZ f v
def AY (f:Nat→Option Nat):List Value→Option (List Value)
 | []=>some []
 | v::vs=>match Ln f v with
  | some u=>match AY f vs with | some us=>some (u::us) | none=>none
  | none=>none
def Lr (f:Nat→Option Nat) (v:Value):Option Value:=
 match v with
 | .tuple xs=>match AY f xs.toList with | some ys=>some (.tuple ys.toArray) | none=>none
 | v=>Ln f v
def wT (f:Nat→Option Nat) (o:aj):Option aj:=
 match o with
 | .arr e xs=>match wR f xs with | some ys=>some (.arr e ys) | none=>none
 | .ro e xs=>match wR f xs with | some ys=>some (.ro e ys) | none=>none
 | _=>none
section
variable {f : Nat → Option Nat} {qy nH : aK} (hf : ∀ i k, f i = some k → qy i = nH k)
include hf
theorem Lo {v u v':Value} (h:AZ f v=some u):ax qy v v'↔ax nH u v':=by
 unfold AZ at h
 split at h
 ·split at h
  ·rename_i i o j hj
   injection h with h;subst h
   have e:=hf _ _ hj
   constructor
   ·intro q;cases q with | ptr hr=>exact .ptr (by rw [←e];exact hr)
   ·intro q;cases q with | ptr hr=>exact .ptr (by rw [e];exact hr)
  ·cases h
 ·split at h
  ·rename_i i o el n c j hj
   injection h with h;subst h
   have e:=hf _ _ hj
   constructor
   ·intro q;cases q with | slice hr a b c d=>exact .slice (by rw [←e];exact hr) a b c d
   ·intro q;cases q with | slice hr a b c d=>exact .slice (by rw [e];exact hr) a b c d
  ·cases h
 ·split at h
  ·rename_i hs
   injection h with h;subst h
   exact ⟨fun q=>fW.rel hs q,fun q=>fW.rel hs q⟩
  ·cases h
omit hf in
theorem VV {v u:Value} (h:AZ f v=some u):gK v=gK u:=by
 unfold AZ at h
 split at h
 ·split at h
  ·injection h with h;subst h;rfl
  ·cases h
 ·split at h
  ·injection h with h;subst h;rfl
  ·cases h
 ·split at h
  ·injection h with h;subst h;rfl
  ·cases h
omit hf in
theorem Lq:∀{xs ys:List Value},wR f xs=some ys→xs.length=ys.length∧∀(k:Nat) (x y:Value),xs[k]?=some x→ys[k]?=some y→AZ f x=some y
 | [],ys,h=>by
  simp only [wR,Option.some.injEq] at h
  subst h
  exact ⟨rfl,fun k x y h _=>by simp at h⟩
 | x::xs,ys,h=>by
  simp only [wR] at h
  split at h
  ·rename_i u hu
   split at h
   ·rename_i us Co
    injection h with h;subst h
    obtain ⟨h1,h2⟩:=Lq Co
    refine ⟨by simp [h1],fun k a b ha hb=>?_⟩
    cases k with
    | zero=>simp at ha hb;rw [←ha,←hb];exact hu
    | succ k=>exact h2 k a b (by simpa using ha) (by simpa using hb)
   ·cases h
  ·cases h
theorem Lp {xs ys:List Value} (h:wR f xs=some ys) {c:Array Value} {sh:Nat}:gv qy c sh xs↔gv nH c sh ys:=by
 obtain ⟨hl,hg⟩:=Lq h
 constructor
 ·intro q j y hy
  have hj:j<xs.length:=by rw [hl];exact (bL hy).1
  have hx:xs[j]?=some xs[j]:=getElem?_eq_getElem hj
  obtain ⟨q1,z,q2,q3⟩:=q j _ hx
  have r:=hg j _ _ hx hy
  exact ⟨by rw [←VV r];exact q1,z,q2,(Lo hf r).1 q3⟩
 ·intro q j x hx
  have hj:j<ys.length:=by rw [←hl];exact (bL hx).1
  have hy:ys[j]?=some ys[j]:=getElem?_eq_getElem hj
  obtain ⟨q1,z,q2,q3⟩:=q j _ hy
  have r:=hg j _ _ hx hy
  exact ⟨by rw [VV r];exact q1,z,q2,(Lo hf r).2 q3⟩
theorem VW {o u:aj} {w:World} {r:RI} (h:wT f o=some u):lM qy w r o↔lM nH w r u:=by
 unfold wT at h
 split at h
 ·split at h
  ·rename_i qk
   injection h with h;subst h
   constructor
   ·rintro ⟨a,b,c,d,e,g⟩;exact ⟨a,b,c,d,e,(Lp hf qk).1 g⟩
   ·rintro ⟨a,b,c,d,e,g⟩;exact ⟨a,b,c,d,e,(Lp hf qk).2 g⟩
  ·cases h
 ·split at h
  ·rename_i qk
   injection h with h;subst h
   constructor
   ·rintro ⟨a,c,t,fr,d,e,g⟩;exact ⟨a,c,t,fr,d,e,(Lp hf qk).1 g⟩
   ·rintro ⟨a,c,t,fr,d,e,g⟩;exact ⟨a,c,t,fr,d,e,(Lp hf qk).2 g⟩
  ·cases h
 ·cases h
theorem aEy {xs ys zs:List Value} (h:wR f xs=some ys) (q:bG qy xs zs):bG nH ys zs:=by
 obtain ⟨hl,hg⟩:=Lq h
 refine bG.Kx (by rw [←hl];exact q.length) fun k y z hy hz=>?_
 have hk:k<xs.length:=by rw [hl];exact (bL hy).1
 have hx:xs[k]?=some xs[k]:=getElem?_eq_getElem hk
 obtain ⟨z',h1,h2⟩:=q.get hx
 rw [hz] at h1;cases h1
 exact (Lo hf (hg k _ _ hx hy)).1 h2
theorem amW {v u v':Value} (h:Ln f v=some u) (q:ax qy v v'):ax nH u v':=by
 unfold Ln at h
 split at h
 ·rename_i xs
  split at h
  ·rename_i ys Aj
   injection h with h;subst h
   cases q with
   | agg hs h1 hr=>
    have vs:=aEy hf Aj (bG.tR hs hr)
    obtain ⟨hl,hg⟩:=Lq Aj
    refine .agg (by have:=vs.length;simpa using this) (fun y hy=>?_) (by have:=vs.ofList;simpa using this)
    have qX:y∈ys:=by simpa using hy
    obtain ⟨k,hk,e⟩:=List.mem_iff_getElem.1 qX
    have hx:xs.toList[k]?=some (xs.toList[k]'(by omega)):=getElem?_eq_getElem (by omega)
    have r:=hg k _ y hx (by rw [getElem?_eq_getElem hk,e])
    rw [←VV r]
    exact h1 _ (getElem_mem _)
  ·cases h
 ·exact (Lo hf h).1 q
theorem VU:∀{xs ys zs:List Value},AY f xs=some ys→bG qy xs zs→bG nH ys zs
 | [],ys,zs,h,q=>by
  simp only [AY,Option.some.injEq] at h
  subst h
  cases q;exact .nil
 | x::xs,ys,zs,h,q=>by
  simp only [AY] at h
  split at h
  ·rename_i u hu
   split at h
   ·rename_i us Co
    injection h with h;subst h
    cases q with
    | cons a b=>exact .cons (amW hf hu a) (VU Co b)
   ·cases h
  ·cases h
theorem aEA {v u v':Value} (h:Lr f v=some u) (q:ax qy v v'):ax nH u v':=by
 unfold Lr at h
 split at h
 ·rename_i xs
  split at h
  ·rename_i ys Aj
   injection h with h;subst h
   cases q with
   | tuple hs hr=>
    have vs:=VU hf Aj (bG.tR hs hr)
    exact .tuple (by have:=vs.length;simpa using this) (by have:=vs.ofList;simpa using this)
  ·cases h
 ·exact amW hf h q
end
def qt (i:Nat):List Nat→Option Nat
 | []=>none
 | a::l=>match Nat.beq a i with | true=>some 0 | false=>match qt i l with | some k=>some (k+1) | none=>none
theorem Lc {i:Nat}:∀{l:List Nat} {k:Nat},qt i l=some k→l[k]?=some i
 | [],k,h=>by cases h
 | a::l,k,h=>by
  simp only [qt] at h
  split at h
  ·rename_i hb
   injection h with h;subst h
   simp [eq_of_beq_eq_true hb]
  ·split at h
   ·rename_i k' cj
    injection h with h;subst h
    simpa using Lc cj
   ·cases h
def By (ids is:List Nat) (b:Nat) (k:Nat):Option Nat:=
 match Nat.blt k ids.length with
 | true=>ids[k]?
 | false=>match qt k is with | some t=>some (b+t) | none=>none
theorem aEz {f:Nat→Option Nat} {o u:aj} (h:wT f o=some u):(∃e xs ys,o=.arr e xs∧u=.arr e ys)∨∃e xs ys,o=.ro e xs∧u=.ro e ys:=by
 unfold wT at h
 split at h
 ·split at h
  ·injection h with h;subst h;exact .inl ⟨_,_,_,rfl,rfl⟩
  ·cases h
 ·split at h
  ·injection h with h;subst h;exact .inr ⟨_,_,_,rfl,rfl⟩
  ·cases h
 ·cases h
theorem tI {h h2:ae} {i k:Nat} {o u:aj} {f:Nat→Option Nat} (h1:h[i]?=some o) (h3:h2[k]?=some u) (hr:wT f o=some u):(cF h i↔cF h2 k)∧fq h i∧fq h2 k:=by
 unfold cF fq
 rw [h1,h3]
 rcases aEz hr with ⟨e,xs,ys,rfl,rfl⟩ | ⟨e,xs,ys,rfl,rfl⟩ <;> simp
theorem ahd {l:List Nat} (h:l.Nodup) {a b i:Nat} (ha:l[a]?=some i) (hb:l[b]?=some i):a=b:=by
 obtain ⟨h1,h2⟩:=bL ha
 obtain ⟨h3,h4⟩:=bL hb
 have hp:=List.pairwise_iff_getElem.1 h
 rcases Nat.lt_trichotomy a b with hl | he | hl
 ·exact absurd (h2.trans h4.symm) (hp a b h1 h3 hl)
 ·exact he
 ·exact absurd (h4.trans h2.symm) (hp b a h3 h1 hl)
theorem ayJ {P:Program} {F:FuncId} {yO args:List Value} {h0 oG h os:ae} {v0 v:Value} {ids is:List Nat} (hc:xk P F yO h0 v0 oG)
  (qh:ids.Nodup) (hlen:h0.length=ids.length) (ha:AY (qt · ids) args=some yO)
  (ho:∀(k i:Nat),ids[k]?=some i→∃o o0:aj,h[i]?=some o∧h0[k]?=some o0∧wT (qt · ids) o=some o0)
  (hex:EX h0 oG) (axC:is.Nodup) (axB:∀k∈is,h0.length≤k) (hv:Lr (By ids is h.length) v0=some v) (_:os.length=is.length)
  (iZ:∀(t k:Nat),is[t]?=some k→∃o0 o:aj,oG[k]?=some o0∧os[t]?=some o∧wT (By ids is h.length) o0=some o):xk P F args h v (h++os):=by
 intro ρ args' w hva H
 let sO:aK:=fun k=>(ids[k]?).bind ρ
 have f1:∀i k,qt i ids=some k→ρ i=sO k:=fun i k hk=>by simp [sO,Lc hk]
 have afH:∀k i,ids[k]?=some i→i<h.length:=fun k i hk=>by
  obtain ⟨o,o0,h1,_⟩:=ho k i hk
  exact (bL h1).1
 have r0:∀k r,sO k=some r→∃i,ids[k]?=some i∧ρ i=some r:=by
  intro k r hr
  cases hi:ids[k]? with
  | none=>simp [sO,hi] at hr
  | some i=>exact ⟨i,rfl,by simpa [sO,hi] using hr⟩
 have H0:a9 P sO h0 w:=by
  refine ⟨?_,?_,?_⟩
  ·intro k r hr
   obtain ⟨i,hi,jF⟩:=r0 k r hr
   obtain ⟨o,o0,h1,h2,h3⟩:=ho k i hi
   obtain ⟨o',dS,nV⟩:=H.obj i r jF
   rw [h1] at dS;cases dS
   exact ⟨o0,h2,(VW f1 h3).1 nV⟩
  ·intro a b r s sj qU nz hm hl
   obtain ⟨i,hi,jF⟩:=r0 a r sj
   obtain ⟨j,hj,uH⟩:=r0 b s qU
   obtain ⟨o,o0,h1,h2,h3⟩:=ho a i hi
   obtain ⟨p,p0,q1,q2,q3⟩:=ho b j hj
   have e:=H.inj i j r s jF uH nz ((tI h1 h2 h3).1.2 hm) (tI q1 q2 q3).2.1
   subst e
   exact ahd qh hi hj
  ·intro k r hr
   obtain ⟨i,_,jF⟩:=r0 k r hr
   exact H.aY i r jF
 refine (hc sO args' w (VU f1 ha hva) H0).mono ?_
 rintro e w' ⟨v',vB,rfl,kW,H',T⟩
 let nH:aK:=fun j=>if j<h.length then ρ j else (is[j-h.length]?).bind vB
 have uV:∀j,j<h.length→nH j=ρ j:=fun j hj=>by simp [nH,hj]
 have r2n:∀t,nH (h.length+t)=(is[t]?).bind vB:=fun t=>by
  show (if h.length+t<h.length then ρ (h.length+t) else (is[h.length+t-h.length]?).bind vB)=_
  rw [if_neg (by omega),Nat.add_sub_cancel_left]
 have Fz:∀k i,ids[k]?=some i→vB k=ρ i:=by
  intro k i hi
  have e0:sO k=ρ i:=by simp [sO,hi]
  cases hr:ρ i with
  | some r=>exact T.ext k r (by rw [e0];exact hr)
  | none=>
   cases qR:vB k with
   | none=>rfl
   | some r=>
    have:=(T.fresh k r qR (by rw [e0];exact hr)).1
    have:k<ids.length:=(bL hi).1
    omega
 have f2:∀k j,By ids is h.length k=some j→vB k=nH j:=by
  intro k j hk
  unfold By at hk
  split at hk
  ·rw [Fz k j hk,uV j (afH k j hk)]
  ·split at hk
   ·rename_i t ht
    injection hk with hk;subst hk
    rw [r2n t,Lc ht];rfl
   ·cases hk
 have f3:∀i k,qt i ids=some k→nH i=vB k:=fun i k hk=>by
  have:=Lc hk
  rw [Fz k i this,uV i (afH k i this)]
 have aiY:∀j,j<h.length→(h++os)[j]?=h[j]?:=fun j hj=>getElem?_append_left hj
 have TI:∀t,(h++os)[h.length+t]?=os[t]?:=fun t=>by rw [List.getElem?_append_right (by omega),Nat.add_sub_cancel_left]
 have hle:ρ.le nH:=fun j r hr=>by rw [uV j (H.lt hr)];exact hr
 have Fs:∀j,j<h.length→(cF (h++os) j↔cF h j)∧(fq (h++os) j↔fq h j):=fun j hj=>by unfold cF fq;rw [aiY j hj];exact ⟨Iff.rfl,Iff.rfl⟩
 -- vf is new,vJ gN own heap has it
 have AK:∀j r,nH j=some r→¬j<h.length→∃t k:Nat,j=h.length+t∧is[t]?=some k∧vB k=some r∧h0.length≤k:=by
  intro j r hr hj
  obtain ⟨t,rfl⟩:∃t,j=h.length+t:=⟨j-h.length,by omega⟩
  rw [r2n t] at hr
  cases hk:is[t]? with
  | none=>rw [hk] at hr;cases hr
  | some k=>rw [hk] at hr;exact ⟨t,k,rfl,hk,hr,axB k (List.mem_of_getElem? hk)⟩
 have ay6:∀k,h0.length≤k→sO k=none:=fun k hk=>by
  have:ids[k]?=none:=List.getElem?_eq_none (by omega)
  simp [sO,this]
 have ahb:∀(k:Nat) (r:RI),vB k=some r→h0.length≤k→w.heap.size≤r.bw∨∃(k' i:Nat) (s:RI),ids[k']?=some i∧ρ i=some s∧s.bw=r.bw∧cF h i:=by
  intro k r hr hk
  rcases (T.fresh k r hr (ay6 k hk)).2 with h1 | ⟨j,s,h1,h2,h3⟩
  ·exact .inl h1
  ·obtain ⟨i,hi,jF⟩:=r0 j s h1
   obtain ⟨o,o0,q1,q2,q3⟩:=ho j i hi
   exact .inr ⟨j,i,s,hi,jF,h2,(tI q1 q2 q3).1.2 h3⟩
 -- an old aAx and a new one aHG no block,if one of aFR dL be written
 have apart:∀(a:Nat) (r:RI) (k:Nat) (s:RI),ρ a=some r→vB k=some s→h0.length≤k→r.bw=s.bw→fq h a→(∀k':Nat,ids[k']?≠some a)→False:=by
  intro a r k s sj pB hk he hla hna
  rcases ahb k s pB hk with h1 | ⟨k',i,s',h1,h2,h3,h4⟩
  ·have:=CF H sj hla;omega
  ·have:=H.inj i a s' r h2 sj (by omega) h4 hla
   subst this
   exact hna k' h1
 refine ⟨v',nH,rfl,aEA f2 hv kW,⟨?_,?_,?_⟩,?_⟩
 ·intro j r hr
  by_cases hj:j<h.length
  ·rw [uV j hj] at hr
   obtain ⟨o,JK,nV⟩:=H.obj j r hr
   refine ⟨o,by rw [aiY j hj];exact JK,?_⟩
   by_cases fc:∃k:Nat,ids[k]?=some j
   ·obtain ⟨k,hk⟩:=fc
    obtain ⟨o1,o0,h1,h2,h3⟩:=ho k j hk
    rw [JK] at h1;cases h1
    obtain ⟨o',dS,Sk⟩:=H'.obj k r (by rw [Fz k j hk];exact hr)
    rw [hex.get h2] at dS;cases dS
    exact (VW f3 h3).2 Sk
   ·by_cases hd:o=.dead
    ·subst hd;trivial
    ·refine nV.mono hle (T.iK _ (CF H hr ⟨o,JK,hd⟩) ?_)
     intro k s hk hb hm
     obtain ⟨i,hi,jF⟩:=r0 k s hk
     obtain ⟨o1,o0,q1,q2,q3⟩:=ho k i hi
     have:=H.inj i j s r jF hr hb ((tI q1 q2 q3).1.2 hm) ⟨o,JK,hd⟩
     subst this
     exact fc ⟨k,hi⟩
  ·obtain ⟨t,k,rfl,hk,pB,gF⟩:=AK j r hr hj
   obtain ⟨o0,o,h1,h2,h3⟩:=iZ t k hk
   obtain ⟨o',dS,Sk⟩:=H'.obj k r pB
   rw [h1] at dS;cases dS
   exact ⟨o,by rw [TI t];exact h2,(VW f2 h3).1 Sk⟩
 ·intro a b r s sj qU nz hm hl
  by_cases vX:a<h.length <;> by_cases B2:b<h.length
  ·rw [uV a vX] at sj
   rw [uV b B2] at qU
   exact H.inj a b r s sj qU nz ((Fs a vX).1.1 hm) ((Fs b B2).2.1 hl)
  ·exfalso
   rw [uV a vX] at sj
   obtain ⟨t,k,rfl,hk,pB,gF⟩:=AK b s qU B2
   have hma:=(Fs a vX).1.1 hm
   by_cases fc:∃k':Nat,ids[k']?=some a
   ·obtain ⟨k',cj⟩:=fc
    obtain ⟨o,o0,q1,q2,q3⟩:=ho k' a cj
    have m1:cF oG k':=by
     have:=(tI q1 (hex.get q2) q3).1.1 hma
     exact this
    obtain ⟨p0,p,u1,u2,u3⟩:=iZ t k hk
    have:=H'.inj k' k r s (by rw [Fz k' a cj];exact sj) pB nz m1 (tI u1 u2 u3).2.1
    have:k'<ids.length:=(bL cj).1
    omega
   ·exact apart a r k s sj pB gF nz hma.live fun k' cj=>fc ⟨k',cj⟩
  ·exfalso
   rw [uV b B2] at qU
   obtain ⟨t,k,rfl,hk,pB,gF⟩:=AK a r sj vX
   have qf:=(Fs b B2).2.1 hl
   obtain ⟨p0,p,u1,u2,u3⟩:=iZ t k hk
   have m0:cF oG k:=(tI u1 (show (h++os)[h.length+t]?=some p by rw [TI t];exact u2) u3).1.2 hm
   by_cases fc:∃k':Nat,ids[k']?=some b
   ·obtain ⟨k',cj⟩:=fc
    obtain ⟨o,o0,q1,q2,q3⟩:=ho k' b cj
    have:=H'.inj k k' r s pB (by rw [Fz k' b cj];exact qU) nz m0 (tI q1 (hex.get q2) q3).2.2
    have:k'<ids.length:=(bL cj).1
    omega
   ·exact apart b s k r qU pB gF nz.symm qf fun k' cj=>fc ⟨k',cj⟩
  ·obtain ⟨t,k,rfl,hk,pB,gF⟩:=AK a r sj vX
   obtain ⟨t',k',rfl,cj,ayh,aG4⟩:=AK b s qU B2
   obtain ⟨p0,p,u1,u2,u3⟩:=iZ t k hk
   obtain ⟨p0',p',x1,x2,x3⟩:=iZ t' k' cj
   have m0:cF oG k:=(tI u1 (show (h++os)[h.length+t]?=some p by rw [TI t];exact u2) u3).1.2 hm
   have:=H'.inj k k' r s pB ayh nz m0 (tI x1 x2 x3).2.1
   subst this
   rw [ahd axC hk cj]
 ·intro j r hr
  by_cases hj:j<h.length
  ·rw [uV j hj] at hr;exact H.aY j r hr
  ·obtain ⟨t,k,rfl,hk,pB,gF⟩:=AK j r hr hj
   exact H'.aY k r pB
 ·exact {
   ext:=hle
   len:=by simp
   jQ:=fun k r hr=>H.lt hr
   kinds:=fun k hk hm=>(Fs k hk).1.1 hm
   fresh:=by
    intro j r hr hn
    by_cases hj:j<h.length
    ·rw [uV j hj,hn] at hr;cases hr
    ·obtain ⟨t,k,rfl,hk,pB,gF⟩:=AK j r hr hj
     refine ⟨by omega,?_⟩
     rcases ahb k r pB gF with h1 | ⟨k',i,s,h1,h2,h3,h4⟩
     ·exact .inl h1
     ·exact .inr ⟨i,s,h2,h3,h4⟩
   ji:=T.ji
   iK:=by
    intro b hb dh
    refine T.iK b hb ?_
    intro k s hk wy hm
    obtain ⟨i,hi,jF⟩:=r0 k s hk
    obtain ⟨o,o0,q1,q2,q3⟩:=ho k i hi
    exact dh i s jF wy ((tI q1 q2 q3).1.2 hm)
   os:=T.os
   tape:=T.tape
   output:=T.output }
end
section
section
variable {β : Type}
def sX (n:Nat) (k:Nat→β):β:=match n with | 0=>k 0 | m+1=>k (m+1)
theorem Ef (n:Nat) (k:Nat→β):sX n k=k n:=by cases n <;> rfl
def QS (n:Int) (k:Int→β):β:=match n with | .ofNat m=>sX m fun m=>k (.ofNat m) | .negSucc m=>sX m fun m=>k (.negSucc m)
theorem awF (n:Int) (k:Int→β):QS n k=k n:=by cases n <;> simp [QS,Ef]
def I6 (v:Value) (k:Value→β):β:=
 match v with
 | .int kd n=>QS n fun n=>k (.int kd n)
 | .bool b=>match b with | true=>k (.bool true) | false=>k (.bool false)
 | .pointer (some ⟨i,o,none⟩)=>sX i fun i=>sX o fun o=>k (.pointer (some ⟨i,o,none⟩))
 | .slice (some ⟨i,o,some e⟩) n c=>sX i fun i=>sX o fun o=>sX n fun n=>sX c fun c=>k (.slice (some ⟨i,o,some e⟩) n c)
 | v=>k v
theorem adG (v:Value) (k:Value→β):I6 v k=k v:=by
 unfold I6
 split
 ·rw [awF]
 ·rename_i b;cases b <;> rfl
 ·simp only [Ef]
 ·simp only [Ef]
 ·rfl
def BN (xs:List Value) (k:List Value→β):β:=match xs with | []=>k [] | x::xs=>I6 x fun x=>BN xs fun xs=>k (x::xs)
theorem QR:∀(xs:List Value) (k:List Value→β),BN xs k=k xs
 | [],_=>rfl
 | x::xs,k=>by simp only [BN,adG];exact QR xs _
def I5 (v:Value) (k:Value→β):β:=match v with | .agg xs=>BN xs.toList fun ys=>k (.agg ys.toArray) | v=>I6 v k
theorem adF (v:Value) (k:Value→β):I5 v k=k v:=by
 unfold I5
 split
 ·rw [QR]
 ·exact adG _ _
def Ee (xs:List Value) (k:List Value→β):β:=match xs with | []=>k [] | x::xs=>I5 x fun x=>Ee xs fun xs=>k (x::xs)
theorem QQ:∀(xs:List Value) (k:List Value→β),Ee xs k=k xs
 | [],_=>rfl
 | x::xs,k=>by simp only [Ee,adF];exact QQ xs _
def QT (v:Value) (k:Value→β):β:=match v with | .tuple xs=>Ee xs.toList fun ys=>k (.tuple ys.toArray) | v=>I5 v k
theorem awG (v:Value) (k:Value→β):QT v k=k v:=by
 unfold QT
 split
 ·rw [QQ]
 ·exact adF _ _
def zh (h:ae) (k:ae→β):β:=
 match h with
 | []=>k []
 | o::r=>match o with
  | .arr e xs=>BN xs fun xs=>zh r fun r=>k (.arr e xs::r)
  | .ro e xs=>BN xs fun xs=>zh r fun r=>k (.ro e xs::r)
  | o=>zh r fun r=>k (o::r)
theorem adH:∀(h:ae) (k:ae→β),zh h k=k h
 | [],_=>rfl
 | o::r,k=>by
  unfold zh
  cases o <;> simp only [QR] <;> exact adH r _
def Eg (xs:List Nat) (k:List Nat→β):β:=match xs with | []=>k [] | x::xs=>sX x fun x=>Eg xs fun xs=>k (x::xs)
theorem adI:∀(xs:List Nat) (k:List Nat→β),Eg xs k=k xs
 | [],_=>rfl
 | x::xs,k=>by simp only [Eg,Ef];exact adI xs _
end
def ayM:Value→List Nat
 | .pointer (some ⟨i,_,none⟩)=>[i]
 | .slice (some ⟨i,_,some _⟩) _ _=>[i]
 | _=>[]
def Ct:List Value→List Nat→List Nat
 | [],r=>r
 | x::xs,r=>match ayM x with | i::_=>i::Ct xs r | []=>Ct xs r
def afJ (v:Value) (r:List Nat):List Nat:=match v with | .agg xs=>Ct xs.toList r | v=>Ct [v] r
def SY:List Value→List Nat→List Nat
 | [],r=>r
 | x::xs,r=>afJ x (SY xs r)
def ayN (v:Value):List Nat:=match v with | .tuple xs=>SY xs.toList [] | v=>afJ v []
def reach:Nat→ae→List Nat→List Nat→List Nat
 | 0,_,_,acc=>acc
 | _+1,_,[],acc=>acc
 | n+1,h,i::r,acc=>
  match qt i acc with
  | some _=>reach n h r acc
  | none=>match h[i]? with
   | some (.arr _ xs)=>reach n h (Ct xs r) (acc++[i])
   | some (.ro _ xs)=>reach n h (Ct xs r) (acc++[i])
   | _=>reach n h r (acc++[i])
def Fv:List Nat→Bool
 | []=>true
 | a::l=>match qt a l with | some _=>false | none=>Fv l
theorem alP {i:Nat}:∀{l:List Nat},qt i l=none→i∉l
 | [],_=>by simp
 | a::l,h=>by
  simp only [qt] at h
  split at h
  ·cases h
  ·rename_i hb
   split at h
   ·cases h
   ·rename_i hn
    intro hm
    rcases mem_cons.1 hm with rfl | hm
    ·simp at hb
    ·exact alP hn hm
theorem TM:∀{l:List Nat},Fv l=true→l.Nodup
 | [],_=>.nil
 | a::l,h=>by
  simp only [Fv] at h
  split at h
  ·cases h
  ·rename_i hn
   exact List.nodup_cons.2 ⟨alP hn,TM h⟩
def CJ (f:Nat→Option Nat) (h:ae):List Nat→Option ae
 | []=>some []
 | i::r=>match h[i]? with
  | some o=>match wT f o with
   | some u=>match CJ f h r with | some us=>some (u::us) | none=>none
   | none=>none
  | none=>none
theorem T4 {f:Nat→Option Nat} {h:ae}:∀{l:List Nat} {us:ae},CJ f h l=some us→us.length=l.length∧∀(k i:Nat),l[k]?=some i→∃o u:aj,h[i]?=some o∧us[k]?=some u∧wT f o=some u
 | [],us,e=>by
  simp only [CJ,Option.some.injEq] at e
  subst e
  exact ⟨rfl,fun k i hk=>by simp at hk⟩
 | i::r,us,e=>by
  simp only [CJ] at e
  split at e
  ·rename_i o ho
   split at e
   ·rename_i u hu
    split at e
    ·rename_i L6 Co
     injection e with e;subst e
     obtain ⟨h1,h2⟩:=T4 Co
     refine ⟨by simp [h1],fun k j hk=>?_⟩
     cases k with
     | zero=>
      have:i=j:=by simpa using hk
      subst this
      exact ⟨o,u,ho,rfl,hu⟩
     | succ k=>simpa using h2 k j (by simpa using hk)
    ·cases e
   ·cases e
  ·cases e
def TU (a b:aj):Bool:=
 match a,b with
 | .arr e xs,.arr e' fL=>Nat.beq e e'&&yA xs fL
 | .ro e xs,.ro e' fL=>Nat.beq e e'&&yA xs fL
 | _,_=>false
theorem aAw {a b:aj} (h:TU a b=true):a=b:=by
 unfold TU at h
 split at h
 ·rw [and_eq_true] at h
  rw [eq_of_beq_eq_true h.1,C2 h.2]
 ·rw [and_eq_true] at h
  rw [eq_of_beq_eq_true h.1,C2 h.2]
 ·cases h
def Lz:ae→ae→Bool
 | [],_=>true
 | a::r,b::s=>TU a b&&Lz r s
 | _::_,[]=>false
theorem ane:∀{h g:ae},Lz h g=true→EX h g
 | [],g,_=>⟨zero_le _,fun i hi=>by simp at hi⟩
 | a::r,b::s,e=>by
  simp only [Lz,and_eq_true] at e
  obtain ⟨h1,h2⟩:=ane e.2
  have:=aAw e.1
  subst this
  refine ⟨by simpa using h1,fun i hi=>?_⟩
  cases i with
  | zero=>rfl
  | succ i=>simpa using h2 i (by simpa using hi)
 | _::_,[],e=>by cases e
def Jf (b:Nat):List Nat→Bool
 | []=>true
 | a::l=>Nat.ble b a&&Jf b l
theorem adX {b:Nat}:∀{l:List Nat},Jf b l=true→∀k∈l,b≤k
 | [],_,k,hk=>by simp at hk
 | a::l,h,k,hk=>by
  simp only [Jf,and_eq_true] at h
  rcases mem_cons.1 hk with rfl | hk
  ·exact bI h.1
  ·exact adX h.2 k hk
def Rd (b:Nat):List Nat→List Nat
 | []=>[]
 | a::l=>match Nat.ble b a with | true=>a::Rd b l | false=>Rd b l
noncomputable def Q3 (call:lF):lF:=fun t args h=>
 match t with
 | .func F=>
  Eg (reach 400 h (SY args []) []) fun ids=>
  match AY (qt · ids) args,CJ (qt · ids) h ids with
  | some yO,some h0=>
   Ee yO fun yO=>zh h0 fun h0=>
   match call (.func F) yO h0 with
   | some (v0,oG)=>
    match Lz h0 oG&&Fv ids with
    | true=>
     Eg (Rd h0.length (reach 400 oG (ayN v0) [])) fun is=>
     sX h.length fun b=>
     match Lr (By ids is b) v0,CJ (By ids is b) oG is with
     | some v,some os=>
      match Fv is&&Jf h0.length is with
      | true=>QT v fun v=>zh os fun os=>some (v,h++os)
      | false=>none
     | _,_=>call t args h
    | false=>call t args h
   | none=>none
  | _,_=>call t args h
 | _=>call t args h
theorem awW {P:Program} {call:lF} (HC:sR P call):sR P (Q3 call):=by
 constructor
 ·intro F args h v h' he
  simp only [Q3,adI,QQ,adH,Ef,awG] at he
  split at he
  ·rename_i yO h0 ha ho
   split at he
   ·rename_i v0 oG rW
    split at he
    ·rename_i Ac
     rw [and_eq_true] at Ac
     split at he
     ·rename_i u os hu iZ
      split at he
      ·rename_i tg
       rw [and_eq_true] at tg
       simp only [Option.some.injEq,Prod.mk.injEq] at he
       obtain ⟨rfl,rfl⟩:=he
       obtain ⟨a1,a2⟩:=T4 ho
       obtain ⟨b1,b2⟩:=T4 iZ
       exact ayJ (HC.fn _ _ _ _ _ rW) (TM Ac.2) a1 ha a2 (ane Ac.1) (TM tg.1) (adX tg.2) hu b1 b2
      ·cases he
     ·exact HC.fn _ _ _ _ _ he
    ·exact HC.fn _ _ _ _ _ he
   ·cases he
  ·exact HC.fn _ _ _ _ _ he
 ·intro i args h v h' he
  exact HC.yi _ _ _ _ _ he
noncomputable def BM (P:Program) (H:FuncId→Hints) (lf:Nat) (rr:lF):Nat→lF
 | 0=>fun _ _ _=>none
 | n+1=>fun t args h=>
  match rr t args h with
  | some r=>some r
  | none=>Q3 (I4 P H lf (BM P H lf rr n)) t args h
theorem adE {P:Program} {H:FuncId→Hints} {lf:Nat} {rr:lF} (HO:sR P rr):∀n,sR P (BM P H lf rr n)
 | 0=>by constructor <;> (intro _ _ _ _ _ h;cases h)
 | n+1=>by
  have HS:=awW (awA (H:=H) (lf:=lf) (adE (H:=H) (lf:=lf) HO n))
  constructor
  ·intro F args h v h' he
   simp only [BM] at he
   split at he
   ·rename_i r hr;cases he;exact HO.fn _ _ _ _ _ hr
   ·exact HS.fn _ _ _ _ _ he
  ·intro i args h v h' he
   simp only [BM] at he
   split at he
   ·rename_i r hr;cases he;exact HO.yi _ _ _ _ _ hr
   ·exact HS.yi _ _ _ _ _ he
theorem awz {P:Program} (H:FuncId→Hints) (lf n:Nat) {rr:lF} (HO:sR P rr) {F:FuncId} {args:List Value} {v:Value} (h:(BM P H lf rr n (.func F) args []).map Prod.fst=some v):∃h',xk P F args [] v h':=by
 simp only [Option.map_eq_some_iff] at h
 obtain ⟨⟨u,h'⟩,h1,h2⟩:=h
 simp at h2
 subst h2
 exact ⟨h',(adE HO n).fn _ _ _ _ _ h1⟩
end
end Go.Sim
namespace Go.Proofs.YtelmdbpaoifmoaaGreat
open Go.Sim
section
set_option maxHeartbeats 0 in
theorem az0:(BM prog evH 1000 rr 30 (.func 14) [] []).map Prod.fst=some (.bool true):=by kernel_rfl
theorem C14 {h:ae} {K:Value→ae→Prop} (hk:K (.bool true) h):ak prog 14 [] h K:=by
 obtain ⟨h',hc⟩:=awz evH 1000 30 aAO az0
 exact au5 (pc.fW rfl) hc rfl hk
end
section
open Go.Sim Go.ChangeShapes Go.WideShapes Go.ChangeAt Go.RowKit
set_option maxRecDepth 100000
theorem Tryz.own:ownKnob prog.godebug=none:=by kernel_rfl
theorem Tryz.laidOut:laidOutB prog=true:=by kernel_rfl
theorem DW:prog.cellsOf 5=1:=by kernel_rfl
section
variable {H : Type} {enc : TypeId × Value → H} {W : World} {ρ : aK} {h : ae}
theorem wf_u8 {x:Int} (h:(Lit.int .u8 x).wf=true):0≤x∧x<256:=by
 simp [Lit.wf,IntKind.min,IntKind.max,IntKind.signed,IntKind.bits] at h
 omega
end
end
end Go.Proofs.YtelmdbpaoifmoaaGreat
namespace Go.Sim
section
open Go.ChangeShapes Go.WideShapes Go.ChangeAt Go.RowKit
section
variable {P : Program} {W : World} {ρ : aK} {h : ae} {H : Type} {enc : TypeId × Value → H}
theorem au8 {w:World} {a:Addr} {v:Value} (h:w.cell? a=some v):a.spot=none:=by
 unfold World.cell? at h
 split at h
 ·split at h
  ·cases h
  ·rename_i hs
   cases hh:a.spot with
   | none=>rfl
   | some x=>rw [hh] at hs;exact absurd rfl hs
 ·cases h
theorem aFY {t e:TypeId} (ht:P.underlying t=some (.slice e)) (hY:P.cellsOf e≠0) {fuel:Nat} {a:Addr} {len cap:Nat} {x:DataW H×List MemPlace}
  (hd:DataW.trod enc P W 0 (fun _=>true) true fuel t [.slice (some a) len cap]=some x):a.spot=none∨(len=0∧cap=0):=by
 rcases DataW.trod_slice ht hd with ⟨h1,_⟩ | ⟨a',aHi,Ix,awl,rest,n,_,h1,_,hb,hl,hm,hlen,zK,Ad,_⟩
 ·simp at h1
 ·simp only [List.cons.injEq,Value.slice.injEq,Option.some.injEq,and_true] at h1
  obtain ⟨rfl,rfl,rfl⟩:=h1
  by_cases hc:cap=0
  ·exact .inr ⟨by omega,hc⟩
  ·left
   obtain ⟨So,hr⟩:=Ad rfl
   have kR:∃y,(W.cells? 0 (a.add (0*P.cellsOf e)) (P.cellsOf e)).bind (DataW.trod enc P W 0 (fun _=>true) true n e)=some y:=by
    by_cases bC:0<len
    ·rw [zK 0 bC,getElem?_eq_getElem (by omega)]
     exact ⟨_,rfl⟩
    ·have:=hr (0-len) (by omega)
     rw [show len+(0-len)=0 by omega] at this
     rw [this,getElem?_eq_getElem (by omega)]
     exact ⟨_,rfl⟩
   obtain ⟨y,hy⟩:=kR
   rw [Option.bind_eq_some_iff] at hy
   obtain ⟨cs,h1,_⟩:=hy
   obtain ⟨_,g2,g3⟩:=World.cells?_some h1
   have:=g3 0 (by omega)
   rw [getElem?_eq_getElem (by omega)] at this
   have e1:a.add (0*P.cellsOf e)=a:=by rw [Nat.zero_mul];rfl
   have e2:a.add 0=a:=rfl
   rw [e1,e2] at this
   exact au8 this
theorem awm {t e:TypeId} (ht:P.underlying t=some (.slice e)) (hY:P.cellsOf e≠0)
  (flat:∀n cs y,DataW.trod enc P W 0 (fun _=>true) true n e cs=some y→cs.length=P.cellsOf e∧∀x∈cs,fW x=true)
  {fuel:Nat} {v:Value} {x:DataW H×List MemPlace} (hd:DataW.trod enc P W 0 (fun _=>true) true fuel t [v]=some x) (HR:a9 P ρ h W) (kV:qw h):
  ∃(av:aK) (g:ae) (v':Value) (n:Nat) (xs:List Value),ρ.le av∧a9 P av (h++g) W∧qw (h++g)∧ax av v' v∧gK v'=true∧
   (((v'=.slice none 0 0∨v'=.slice none 0 1)∧n=0)∨∃i,v'=sl e i 0 n∧(n=0∨aP (h++g) i=some xs))∧xs.length=n*P.cellsOf e∧(∀y∈xs,fW y=true)∧
   ∀i,i<n→∃m y,DataW.trod enc P W 0 (fun _=>true) true m e ((xs.drop (i*P.cellsOf e)).take (P.cellsOf e))=some y:=by
 by_cases hv:∃a,v=.slice (some a) 0 0∧a.spot≠none
 ·obtain ⟨a,rfl,_⟩:=hv
  exact ⟨ρ,[],.slice none 0 1,0,[],.refl _,by simpa using HR,by simpa using kV,.void a,rfl,.inl ⟨.inr rfl,rfl⟩,by simp,by simp,fun i hi=>by omega⟩
 ·have hs:∀(a:Addr) (len cap:Nat),v=.slice (some a) len cap→a.spot=none:=by
   rintro a len cap rfl
   rcases aFY ht hY hd with h1 | ⟨rfl,rfl⟩
   ·exact h1
   ·apply byContradiction
    intro hc
    exact hv ⟨a,rfl,hc⟩
  obtain ⟨av,g,v',n,xs,e1,e2,e3,e4,e5,e6,e7⟩:=awn ht hY flat hd hs HR kV
  exact ⟨av,g,v',n,xs,e1,e2,e3,e4,e5,e6.imp (fun ⟨a,b⟩=>⟨.inl a,b⟩) id,e7⟩
end
end
end Go.Sim
namespace Go.Proofs.YtelmdbpaoifmoaaGreat
open Go.Sim
section
section
variable {h : ae} {id : Nat}
abbrev hb (h:ae) (id:Nat) (xs:List UInt8):ae:=h.set id (.arr 5 (xs.map cv))
theorem Jn (iY:id<h.length) (xs:List UInt8):(hb h id xs)[id]?=some (.arr 5 (xs.map cv)):=by simp [hb,iY]
theorem aei (iY:id<h.length) {xs:List UInt8} {j:Nat} {c:UInt8} (hj:xs[j]?=some c):af false 1 (hb h id xs) (pt id j)=some (cv c):=by
 simp [af,aP,Jn iY,b9,hj]
theorem aej (iY:id<h.length) {xs:List UInt8} {j:Nat} (c:UInt8) (hj:j<xs.length):aF 1 (hb h id xs) (pt id j) (cv c)=some (undef,hb h id (xs.set j c)):=by
 rw [oS (Jn iY xs) (by simpa using hj) rfl rfl]
 simp [hb,List.map_set]
end
end
end Go.Proofs.YtelmdbpaoifmoaaGreat
