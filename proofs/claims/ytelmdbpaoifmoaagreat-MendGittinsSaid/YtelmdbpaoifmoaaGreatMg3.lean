/-
  Part 3 of the texts behind a statement of this seat: Sim27, Sim30, Sim31, Sim22, ZEvH, Sim28, ZM1, Sp6, Sp13, Sp10, ZMe1, Sp14, Sp15, Sq16, Sq17, ZMe2, ZMe3, ZM4, Sq18, ZMe5, ZM2, Sq19, Sq20, ZMe6, ZLvO, Sim29, Sim32, ZLv1, ZK, Sim36, ZU, ZN1.
-/
import Derived.Test.YtelmdbpaoifmoaaGreatProg
import Derived.KernelRfl
import Derived.Test.YtelmdbpaoifmoaaGreatRows
import Derived.Test.YtelmdbpaoifmoaaGreatMg2
open Bool (and_eq_true false_eq_true)
open Classical (byContradiction)
open Go.Proofs.Tryz (prog)
open Int (mul_assoc)
open List (getD_eq_getElem?_getD getElem?_append_left getElem?_eq_getElem getElem_mem length_cons length_map mem_append mem_cons mem_filter mem_map mem_range)
open Nat (eq_of_beq_eq_true eq_of_testBit_eq le_refl lt_of_lt_of_le pow_le_pow_right testBit_and testBit_or zero_le)
open Option (bind_some)
namespace Go.Sim
section
inductive CL (o:Option (List (Value×ae))) (K:Value→ae→Prop):Prop | mk:(∃l,o=some l∧∀p∈l,K p.1 p.2)→CL o K
inductive Cz (P:Program) (F:FuncId) (args:List Value) (h:ae) (K:Value→ae→Prop):Prop | mk:Rz P F args h K→Cz P F args h K
theorem XZ (o:Option (List (Value×ae))) (K:Value→ae→Prop):CL o K=∃l,o=some l∧∀p∈l,K p.1 p.2:=propext ⟨fun ⟨h⟩=>h,.mk⟩
theorem amW:Cz=Rz:=funext fun _=>funext fun _=>funext fun _=>funext fun _=>funext fun _=>propext ⟨fun ⟨h⟩=>h,.mk⟩
def Fg (P:Program) (o:gT) (f:Nat→Value) (h:ae) (K:Value→ae→Prop):Prop:=
 match o with
 | .e (.next it)=>CL (zR h (ev f it)) K
 | .p o=>E3 o (ev f) fun v=>K v h
 | .l o=>OP (fF o (ev f) h) fun v=>K v h
 | .e o=>OH (fZ o (ev f) h) K
 | .call g args=>aj P g (args.map (ev f)) h K
 | .kS x args=>uI P (ev f x) (args.map (ev f)) h K
theorem aDH (P:Program) (o:gT) (f:Nat→Value) (h:ae) (K:Value→ae→Prop):Fg P o f h K=Ce P o f h K:=by
 cases o with
 | e eo=>cases eo <;> simp only [Fg,Ce,dd,Mo,XZ]
 | _=>simp only [Fg,Ce,dd,Ub,AF,uH,Lx]
def P9 (P:Program) (l:List je) (K:(Nat→Value)→ae→Prop):(Nat→Value)→ae→Prop:=
 List.rec (motive:=fun _=>(Nat→Value)→ae→Prop) (fun f h=>K f h) (fun o _ ih f h=>Fg P o.op f h fun v h'=>ih (dK f o.dst v) h') l
theorem avn (P:Program) (l:List je) (K:(Nat→Value)→ae→Prop):∀(f:Nat→Value) (h:ae),P9 P l K f h=A6 P l K f h:=by
 induction l with
 | nil=>intro f h;rfl
 | cons o os ih=>
  intro f h
  show Fg P o.op f h (fun v h'=>P9 P os K (dK f o.dst v) h')=_
  rw [aDH,A6]
  congr 1
  funext v h'
  exact ih _ _
def SE (P:Program) (g:Option (Nat×Bool)) (l:List je) (K:(Nat→Value)→ae→Prop) (f:Nat→Value) (h:ae):Prop:=
 match g with
 | none=>P9 P l K f h
 | some (s,b)=>cm (f s) b (DB P l K f h) (K (Ck l f) h)
theorem ayY (P:Program) (g:Option (Nat×Bool)) (l:List je) (K:(Nat→Value)→ae→Prop) (f:Nat→Value) (h:ae):SE P g l K f h=Jy P g l K f h:=by
 unfold SE Jy ta
 split <;> simp only [avn,acL,Lz]
noncomputable def iu (P:Program) (c:fa):ar→(Nat→Value)→ae→Prop:=
 fa.rec (motive:=fun _=>ar→(Nat→Value)→ae→Prop)
  (fun K f h=>K .normal f h)
  (fun l K f h=>tL P l 0 [] [] (K .normal) f h)
  (fun g l K f h=>SE P g l (K .normal) f h)
  (fun _ _ ia ib K f h=>ia (aF (ib K) K) f h)
  (fun ls _ ic K f h=>ay (ic K) ls (ls.map f) h)
  (fun c _ _ ia ib K f h=>aQ (ev f c) (ia K f h) (ib K f h))
  (fun id _ ic K f h=>ic (bN id K) f h)
  (fun ks ls _ ic K f h=>cM (ls.map f) h fun L xs hx=>ay (ic (aF (fun f' aT=>ks.map f'=ks.map f∧L (ls.map f') aT) K)) (ks++ls) (ks.map f++xs) hx)
  (fun id K f h=>K (.exit id) f h)
  (fun K f h=>K .ret f h)
  (fun g ls c K f h=>AG P (ev f g) ls (ls.map f) c h (K .normal f)) c
theorem axd (P:Program) (c:fa):iu P c=lM P c:=by
 induction c with
 | skip=>rfl
 | HN l=>funext K f h;exact Ii P l 0 [] [] (K .normal) f h
 | ops g l=>funext K f h;exact ayY P g l (K .normal) f h
 | seq a b rO sQ=>
  funext K f h
  show iu P a (aF (iu P b K) K) f h=lM P a (aF (lM P b K) K) f h
  rw [rO,sQ]
 | cut ls c ih=>
  funext K f h
  show ay (iu P c K) ls (ls.map f) h=AU (lM P c K) ls (ls.map f) h
  rw [ih,CB]
 | cond c a b rO sQ=>
  funext K f h
  show aQ (ev f c) (iu P a K f h) (iu P b K f h)=pq (ev f c) (lM P a K f h) (lM P b K f h)
  rw [rO,sQ,WB]
 | block id c ih=>
  funext K f h
  show iu P c (bN id K) f h=lM P c (bN id K) f h
  rw [ih]
 | loop ks ls c ih=>
  funext K f h
  show cM (ls.map f) h (fun L xs hx=>ay (iu P c (aF (fun f' aT=>ks.map f'=ks.map f∧L (ls.map f') aT) K)) (ks++ls) (ks.map f++xs) hx)=
   zL (ls.map f) h (fun L xs hx=>lM P c (aF (fun f' aT=>ks.map f'=ks.map f∧L (ls.map f') aT) K) (kj (ks++ls) (ks.map f++xs)) hx)
  rw [ih,XY,CB]
  rfl
 | exit id=>rfl
 | ret=>rfl
 | range g ls c=>
  funext K f h
  show AG P (ev f g) ls (ls.map f) c h (K .normal f)=uk P (ev f g) ls (ls.map f) c h (K .normal f)
  rw [X0]
theorem atl {P:Program} {F:FuncId} {N:Nat} {ic:fa} {rs:List ky} {hs:Hints} {h:ae} (hc:bz P F hs=some (N,ic,rs)) {args:List Value} (ha:args.length≤N)
  {K:Value→ae→Prop} (hi:iu P ic (aS rs K) (bt args) h):Cz P F args h K:=
 .mk (awS hc ha (by rw [←axd,←Ys];exact hi))
theorem apP {l:List (Value×ae)} {K:Value→ae→Prop}:CL (some l) K↔∀p∈l,K p.1 p.2:=by
 rw [XZ]
 constructor
 ·rintro ⟨l',h1,h2⟩;cases h1;exact h2
 ·intro h;exact ⟨l,rfl,h⟩
section gc
variable {P : Program} {F : FuncId} {args : List Value} {h : ae}
theorem atm {K:Value→ae→Prop} {V:Nat→Value} {o:aq} (hV:oI V) (ho:vW o=true)
  (hc:Cz P F args h fun u h'=>EX h h'∧∃i,h.length≤i∧h'[i]?=some o∧u=V i) (hk:K (V h.length) (h++[o])):aj P F args h K:=by
 rw [uH]
 rw [amW] at hc
 refine ⟨_,_,?_,hk⟩
 intro ρ args' w hv H
 refine (hc ρ args' w hv H).mono ?_
 rintro e w' ⟨u,h',v',av,⟨hex,i,hi,bU,rfl⟩,rfl,kG,H',T⟩
 let mG:aK:=fun k=>if k=h.length then av i else ρ k
 have r1:mG h.length=av i:=by simp [mG]
 have r2:∀k,k≠h.length→mG k=ρ k:=fun k hk=>by simp [mG,hk]
 have r3:∀k r,ρ k=some r→av k=some r∧k<h.length∧h'[k]?=h[k]?:=fun k r hr=>⟨T.ext k r hr,H.lt hr,hex.2 k (H.lt hr)⟩
 have old:∀k,k<h.length→(h++[o])[k]?=h[k]?:=fun k hk=>getElem?_append_left hk
 have new:(h++[o])[h.length]?=some o:=by simp
 have hle:ρ.le mG:=by
  intro k r hr
  rw [r2 k (by have:=H.lt hr;omega)]
  exact hr
 have mt:∀k,k<h.length→(cB (h++[o]) k↔cB h' k):=fun k hk=>by unfold cB;rw [old k hk,hex.2 k hk]
 have Ep:∀k,k<h.length→(eX (h++[o]) k↔eX h' k):=fun k hk=>by unfold eX;rw [old k hk,hex.2 k hk]
 have So:cB (h++[o]) h.length↔cB h' i:=by unfold cB;rw [new,bU]
 have Sb:eX (h++[o]) h.length↔eX h' i:=by unfold eX;rw [new,bU]
 refine ⟨v',mG,rfl,hV av mG i h.length v' r1 kG,⟨?_,?_,?_⟩,?_⟩
 ·intro k r hr
  by_cases e:k=h.length
  ·subst e
   rw [r1] at hr
   obtain ⟨o',dO,nC⟩:=H'.obj i r hr
   rw [bU] at dO
   cases dO
   exact ⟨o,new,vW.rel ho nC⟩
  ·rw [r2 k e] at hr
   obtain ⟨q1,q2,q3⟩:=r3 k r hr
   obtain ⟨o',dO,nC⟩:=H.obj k r hr
   obtain ⟨o2,DW,Q4⟩:=H'.obj k r q1
   rw [q3,dO] at DW
   cases DW
   exact ⟨o',by rw [old k q2];exact dO,(nC.down T.ext Q4).mono hle rfl⟩
 ·intro a b r s ha hb mU hm hl
  by_cases ea:a=h.length <;> by_cases eb:b=h.length
  ·omega
  ·subst ea
   rw [r1] at ha
   rw [r2 b eb] at hb
   obtain ⟨q1,q2,q3⟩:=r3 b s hb
   have:=H'.inj i b r s ha q1 mU (So.1 hm) ((Ep b q2).1 hl)
   omega
  ·subst eb
   rw [r1] at hb
   rw [r2 a ea] at ha
   obtain ⟨q1,q2,q3⟩:=r3 a r ha
   have:=H'.inj a i r s q1 hb mU ((mt a q2).1 hm) (Sb.1 hl)
   omega
  ·rw [r2 a ea] at ha
   rw [r2 b eb] at hb
   obtain ⟨q1,q2,_⟩:=r3 a r ha
   obtain ⟨p1,p2,_⟩:=r3 b s hb
   exact H'.inj a b r s q1 p1 mU ((mt a q2).1 hm) ((Ep b p2).1 hl)
 ·intro k r hr
  by_cases e:k=h.length
  ·subst e
   rw [r1] at hr
   exact H'.aX i r hr
  ·rw [r2 k e] at hr
   exact H.aX k r hr
 ·exact {
   ext:=hle
   len:=by simp
   jC:=fun k r hr=>H.lt hr
   kinds:=fun k hk hm=>by unfold cB at hm⊢;rw [old k hk] at hm;exact hm
   fresh:=by
    intro k r hr hn
    by_cases e:k=h.length
    ·subst e
     rw [r1] at hr
     have iS:ρ i=none:=by
      cases hq:ρ i with
      | none=>rfl
      | some q=>exact absurd (H.lt hq) (by omega)
     exact ⟨le_refl _,(T.fresh i r hr iS).2⟩
    ·rw [r2 k e] at hr
     rw [hr] at hn
     cases hn
   iL:=T.iL
   hY:=T.hY
   os:=T.os
   tape:=T.tape
   output:=T.output }
end gc
end
section
theorem EX.load {h h':ae} (k:EX h h') {agg:Bool} {n:Nat} {a v:Value} (hl:af agg n h a=some v):af agg n h' a=some v:=by
 unfold af at hl⊢
 split at hl
 ·rename_i i o
  cases hc:aR h i with
  | none=>rw [hc] at hl;cases hl
  | some xs=>rw [hc] at hl;rw [k.cells hc];exact hl
 ·cases hl
theorem fA (i:Nat) (h:i<4611686018427387904):IntKind.wrap .i64 ((i:Int)+1)=((i+1:Nat):Int):=by
 rw [wrap64 (by omega) (by omega)];omega
@[simp] theorem cn (o i k : Nat) : aL o (pt i k) = some (pt i (k + o)) := rfl
@[simp] theorem Jt (i k : Nat) : xt (pt i k) = some (pt i k) := rfl
def rQ (ps:List (Int×Int)):List Value:=ps.flatMap fun p=>[I p.1,I p.2]
theorem Kb:∀{ps:List (Int×Int)} {k:Nat} {p:Int×Int},ps[k]?=some p→(rQ ps)[2*k]?=some (I p.1)∧(rQ ps)[2*k+1]?=some (I p.2)
 | [],k,p,h=>by simp at h
 | q::ps,0,p,h=>by simp at h;subst h;simp [rQ]
 | q::ps,k+1,p,h=>by
  have:=Kb (ps:=ps) (k:=k) (p:=p) (by simpa using h)
  rw [show 2*(k+1)=2*k+1+1 by omega]
  simpa [rQ] using this
theorem akh (ps:List (Int×Int)):(rQ ps).length=2*ps.length:=by
 induction ps with
 | nil=>rfl
 | cons p ps ih=>simp only [rQ,List.flatMap_cons,List.length_append,length_cons,List.length_nil] at ih⊢;omega
structure PS (h:ae) (v:Value) (ps:List (Int×Int)):Prop where
 len:bj v=some (I ps.length)
 get:∀k (hk:k<ps.length),∃i o,bc 2 v (I k)=some (pt i o)∧af false 1 h (pt i o)=some (I ps[k].1)∧af false 1 h (pt i (o+1))=some (I ps[k].2)∧
  af true 2 h (pt i o)=some (.agg #[I ps[k].1,I ps[k].2])
theorem PS.mono {h h':ae} {v:Value} {ps:List (Int×Int)} (k:EX h h') (p:PS h v ps):PS h' v ps:=
 ⟨p.len,fun j hj=>let ⟨i,o,a,b,c,d⟩:=p.get j hj;⟨i,o,a,EX.load k b,EX.load k c,EX.load k d⟩⟩
theorem PS.nil (h:ae):PS h (.slice none 0 0) []:=⟨rfl,fun k hk=>by simp at hk⟩
theorem PS.sl {h:ae} {e:TypeId} {i:Nat} {ps:List (Int×Int)} (hc:aR h i=some (rQ ps)):PS h (sl e i 0 ps.length) ps:=by
 refine ⟨rfl,fun k hk=>⟨i,2*k,?_,?_,?_,?_⟩⟩
 ·have:(0:Int)≤(k:Int)∧(k:Int)<(ps.length:Int):=by omega
  simp [Go.Sim.sl,bc,this,Nat.mul_comm]
 ·obtain ⟨g1,g2⟩:=Kb (getElem?_eq_getElem hk)
  simp [af,hc,cf,g1]
 ·obtain ⟨g1,g2⟩:=Kb (getElem?_eq_getElem hk)
  simp [af,hc,cf,g2]
 ·obtain ⟨g1,g2⟩:=Kb (getElem?_eq_getElem hk)
  have hl:=akh ps
  have:((rQ ps).drop (2*k)).take 2=[I ps[k].1,I ps[k].2]:=by
   apply List.ext_getElem?
   intro j
   rw [List.getElem?_take]
   match j with
   | 0=>simpa using g1
   | 1=>simpa using g2
   | j+2=>simp;omega
  have h2:2*k+2≤(rQ ps).length:=by omega
  simp [af,hc,cf,this,h2]
def fE (b:Nat) (hx:ae) (e:TypeId) (v:Value) (xs:List Value):Prop:=
 (v=.slice none 0 0∧xs=[])∨(∃i,b≤i∧v=sl e i 0 xs.length∧hx[i]?=some (.arr e xs))
theorem Gd {h0 hx:ae} {e:TypeId} {bytes:Nat} {v x z:Value} {xs:List Value} {K:Value→ae→Prop} (o:fE h0.length hx e v xs) (hex:EX h0 hx) (hb:(xs.length+1)*bytes≤140737488355328) (hm:xs.length+1≤maxLen)
  (h1:iA x=true) (h2:de x=[x]) (hk:∀v' bR,EX h0 bR→fE h0.length bR e v' (xs++[x])→K v' bR):
  OH (dH e 1 [z] hx [(0,1,x)]) fun a h2=>OH (dT e 1 bytes h2 v a) K:=by
 have e1:dH e 1 [z] hx [(0,1,x)]=some (sl e hx.length 0 1,hx++[.arr e [x]]):=by
  simp [dH,su,iO,h1,h2,setAt]
 rw [e1]
 simp only [aC]
 have e2:kL (hx++[.arr e [x]]) 1 (sl e hx.length 0 1)=some [x]:=by simp [kL,sl,aR]
 have e3:pP (sl e hx.length 0 1)=some 1:=rfl
 rcases o with ⟨rfl,rfl⟩ | ⟨i,hi,rfl,bU⟩
 ·refine F4 (v:=sl e (hx.length+1) 0 1) (h:=hx++[.arr e [x]]++[.arr e [x]]) ?_ (hk _ _ ((hex.push _).push _) (.inr ⟨hx.length+1,by have:=hex.1;omega,rfl,by simp⟩))
  have kB:1*bytes≤140737488355328:=by simpa using hb
  have fU:1≤maxLen:=by simpa using hm
  simp only [dT,e2,e3]
  rw [if_neg (by omega),if_pos ⟨kB,fU⟩]
  simp
 ·have aD:=(bK bU).1
  have hg:(hx++[.arr e [x]])[i]?=some (.arr e xs):=by rw [getElem?_append_left aD];exact bU
  refine F4 (v:=sl e (hx.length+1) 0 (xs.length+1)) (h:=(hx++[aq.arr e [x]]).set i aq.dead++[aq.arr e (xs++[x])]) ?_
   (hk _ _ (((hex.push _).set hi _).push _) (.inr ⟨hx.length+1,by have:=hex.1;omega,by simp,?_⟩))
  ·simp only [dT,e2,e3]
   simp only [sl,hg]
   rw [if_pos ⟨trivial,trivial,by simp,hb,hm⟩,if_neg (by omega)]
   simp
  ·rw [List.getElem?_append_right (by simp)]
   simp
theorem yb {b:Nat} {hx:ae} {e:TypeId} {v:Value} {l:List UInt8} (o:fE b hx e v (l.map cv)):rL hx v=some (S l):=by
 have hm:∀l:List UInt8,(l.map cv).mapM CU=some l:=by
  intro l
  induction l with
  | nil=>rfl
  | cons c l ih=>simp [List.mapM_cons,CU,ih]
 rcases o with ⟨rfl,hx⟩ | ⟨i,hi,rfl,bU⟩
 ·have:l=[]:=by simpa using hx
  subst this
  rfl
 ·by_cases hl:l=[]
  ·subst hl
   simp [rL,kL,sl]
  ·have hn:l.length≠0:=by simpa using hl
   have hn':¬(l.map cv).length=0:=by simpa using hl
   have ht:((l.map cv).drop 0).take ((l.map cv).length*1)=l.map cv:=by rw [List.drop_zero,Nat.mul_one,List.take_length]
   simp only [rL,kL,sl,if_neg hn',aR,bU,bind_some]
   rw [if_pos (by omega),ht,bind_some,hm]
   rfl
structure SS (h:ae) (v:Value) (ls:List (List UInt8)):Prop where
 len:bj v=some (I ls.length)
 get:∀k (hk:k<ls.length),∃i o,bc 1 v (I k)=some (pt i o)∧af false 1 h (pt i o)=some (S ls[k])
theorem SS.mono {h h':ae} {v:Value} {ls:List (List UInt8)} (k:EX h h') (p:SS h v ls):SS h' v ls:=
 ⟨p.len,fun j hj=>let ⟨i,o,a,b⟩:=p.get j hj;⟨i,o,a,EX.load k b⟩⟩
theorem SS.sl {h:ae} {e:TypeId} {i:Nat} {ls:List (List UInt8)} (hc:aR h i=some (ls.map S)):SS h (sl e i 0 ls.length) ls:=by
 refine ⟨rfl,fun k hk=>⟨i,k,?_,?_⟩⟩
 ·have:(0:Int)≤(k:Int)∧(k:Int)<(ls.length:Int):=by omega
  simp [Go.Sim.sl,bc,this]
 ·simp [af,hc,cf,hk]
theorem min2 (a b:Int):xr false [I a,I b]=some (I (min a b)):=by
 simp only [xr,List.foldlM,max2,false_eq_true,if_false]
 have:(if b<a then b else a)=min a b:=by split <;> omega
 rw [this]
 rfl
theorem ayk (a b:Int):xr true [I a,I b]=some (I (max a b)):=by
 simp only [xr,List.foldlM,max2,if_true]
 have:(if b>a then b else a)=max a b:=by split <;> omega
 rw [this]
 rfl
theorem sV {h:ae} {e:TypeId} {xs:List Value} {j:Nat} {v:Value} (hj:xs[j]?=some v):af false 1 (h++[.arr e xs]) (pt h.length j)=some v:=by
 simp [af,aR,cf,hj]
theorem aDC {v x:Value} (h:bj v=some x):iA v=true∧de v=[v]:=by
 unfold bj at h
 split at h
 ·exact ⟨rfl,rfl⟩
 ·cases h
theorem NS.zH {h:ae} {v:Value} {l:List Nat} (p:NS h v .i64 (l.map fun i:Nat=>(i:Int))):bj v=some (I l.length):=by have:=p.len;rwa [length_map] at this
def CX (h h':ae):Prop:=∀d cs,aR h d=some cs→aR h' d=some cs
theorem CX.refl (h:ae):CX h h:=fun _ _ h=>h
theorem CX.load {h h':ae} (k:CX h h') {agg:Bool} {n:Nat} {a v:Value} (hl:af agg n h a=some v):af agg n h' a=some v:=by
 unfold af at hl⊢
 split at hl
 ·rename_i i o
  cases hc:aR h i with
  | none=>rw [hc] at hl;cases hl
  | some xs=>rw [hc] at hl;rw [k _ _ hc];exact hl
 ·cases hl
theorem PS.BR {h h':ae} {v:Value} {ps:List (Int×Int)} (k:CX h h') (p:PS h v ps):PS h' v ps:=
 ⟨p.len,fun j hj=>let ⟨i,o,a,b,c,d⟩:=p.get j hj;⟨i,o,a,k.load b,k.load c,k.load d⟩⟩
theorem NS.BR {h h':ae} {v:Value} {k:IntKind} {ns:List Int} (e:CX h h') (p:NS h v k ns):NS h' v k ns:=
 ⟨p.len,fun j hj=>let ⟨i,o,a,b⟩:=p.get j hj;⟨i,o,a,e.load b⟩,p.le⟩
def XM (im:Nat) (h h':ae):Prop:=h.length≤h'.length∧∀d,d<h.length→d≠im→h'[d]?=h[d]?
theorem XM.refl (im:Nat) (h:ae):XM im h h:=⟨le_refl _,fun _ _ _=>rfl⟩
theorem XM.trans {im:Nat} {a b c:ae} (h:XM im a b) (k:XM im b c):XM im a c:=⟨Nat.le_trans h.1 k.1,fun d h1 h2=>(k.2 d (lt_of_lt_of_le h1 h.1) h2).trans (h.2 d h1 h2)⟩
theorem XM.ex {im:Nat} {a b:ae} (h:EX a b):XM im a b:=⟨h.1,fun d h1 _=>h.2 d h1⟩
theorem XM.set {im:Nat} {a b:ae} (h:XM im a b) (o:aq):XM im a (b.set im o):=⟨by simpa using h.1,fun d h1 h2=>by rw [List.getElem?_set_ne (by omega)];exact h.2 d h1 h2⟩
theorem XM.get {im:Nat} {a b:ae} (h:XM im a b) {d:Nat} {o:aq} (hd:d≠im) (hg:a[d]?=some o):b[d]?=some o:=by
 rw [h.2 d (bK hg).1 hd];exact hg
theorem ae5 {h:ae} {d:Nat} {v:Value} (hc:aR h d=some [v]):af false 1 h (pt d 0)=some v:=by
 simp [af,hc,cf]
@[simp] theorem ft (a b : Value) : (#[a, b] : Array Value)[0]? = some a := rfl
@[simp] theorem fv (a b : Value) : (#[a, b] : Array Value)[1]? = some b := rfl
theorem bn {h:ae} {o:aq}:(h++[o])[h.length]?=some o:=by simp
theorem aDp (xs:List Value) (o:Nat) (v:Value) (ho:o<xs.length):setAt xs o [v]=xs.set o v:=by
 unfold setAt
 rw [List.set_eq_take_append_cons_drop,if_pos ho]
 simp
theorem pW {h:ae} {i o:Nat} {e:TypeId} {xs:List Value} {v:Value} (hg:h[i]?=some (.arr e xs)) (ho:o<xs.length) (h1:iA v=true) (h2:de v=[v]):aE 1 h (pt i o) v=some (undef,h.set i (.arr e (xs.set o v))):=by
 simp only [aE,vK,hg,h1,h2,aDp _ _ _ ho]
 rw [if_pos ⟨trivial,rfl,by omega⟩]
 rfl
theorem fE.one {b:Nat} {hx:ae} {e:TypeId} {v:Value} {xs:List Value} (o:fE b hx e v xs):iA v=true∧de v=[v]:=by
 rcases o with ⟨rfl,_⟩ | ⟨i,_,rfl,_⟩ <;> exact ⟨rfl,rfl⟩
theorem Ge {b:Nat} {hx:ae} {e:TypeId} {bytes:Nat} {v x z:Value} {xs:List Value} {K:Value→ae→Prop} (o:fE b hx e v xs) (hb:(xs.length+1)*bytes≤140737488355328) (hm:xs.length+1≤maxLen)
  (h1:iA x=true) (h2:de x=[x]) (hk:∀h1 bR,h1=hx++[.arr e [x]]→bR.length=hx.length+2→(∀d,d<hx.length→(∀n,v≠sl e d 0 n)→bR[d]?=hx[d]?)→bR[hx.length+1]?=some (.arr e (xs++[x]))→OH (some (sl e (hx.length+1) 0 (xs.length+1),bR)) K):
  OH (dH e 1 [z] hx [(0,1,x)]) fun a h2=>OH (dT e 1 bytes h2 v a) K:=by
 have e1:dH e 1 [z] hx [(0,1,x)]=some (sl e hx.length 0 1,hx++[.arr e [x]]):=by
  simp [dH,su,iO,h1,h2,setAt]
 rw [e1]
 simp only [aC]
 have e2:kL (hx++[.arr e [x]]) 1 (sl e hx.length 0 1)=some [x]:=by simp [kL,sl,aR]
 have e3:pP (sl e hx.length 0 1)=some 1:=rfl
 rcases o with ⟨rfl,rfl⟩ | ⟨i,hi,rfl,bU⟩
 ·have kB:1*bytes≤140737488355328:=by simpa using hb
  have fU:1≤maxLen:=by simpa using hm
  have e4:dT e 1 bytes (hx++[.arr e [x]]) (.slice none 0 0) (sl e hx.length 0 1)=some (sl e (hx.length+1) 0 1,hx++[.arr e [x]]++[.arr e [x]]):=by
   simp only [dT,e2,e3]
   rw [if_neg (by omega),if_pos ⟨kB,fU⟩]
   simp
  rw [e4]
  refine hk _ _ rfl (by simp) (fun d hd _=>by rw [getElem?_append_left (by simp;omega),getElem?_append_left hd]) (by rw [List.getElem?_append_right (by simp)];simp)
 ·have aD:=(bK bU).1
  have hg:(hx++[.arr e [x]])[i]?=some (.arr e xs):=by rw [getElem?_append_left aD];exact bU
  have e4:dT e 1 bytes (hx++[.arr e [x]]) (sl e i 0 xs.length) (sl e hx.length 0 1)=some (sl e (hx.length+1) 0 (xs.length+1),(hx++[aq.arr e [x]]).set i aq.dead++[aq.arr e (xs++[x])]):=by
   simp only [dT,e2,e3]
   simp only [sl,hg]
   rw [if_pos ⟨trivial,trivial,by simp,hb,hm⟩,if_neg (by omega)]
   simp
  rw [e4]
  refine hk _ _ rfl (by simp) (fun d hd bp=>?_) (by rw [List.getElem?_append_right (by simp)];simp)
  have nz:i≠d:=by rintro rfl;exact bp _ rfl
  rw [getElem?_append_left (by simp;omega),List.getElem?_set_ne nz,getElem?_append_left hd]
theorem UU {e e':TypeId} {i i' o o' n n':Nat} (h:sl e i o n=sl e' i' o' n'):i=i'∧n=n':=by
 unfold sl at h
 injection h with h1 h2
 injection h1 with h1
 injection h1 with h1
 exact ⟨h1,h2⟩
theorem fE.dY {b:Nat} {g g':ae} {e:TypeId} {v:Value} {xs:List Value} (o:fE b g e v xs) (h:∀d n,v=sl e d 0 n→b≤d→g'[d]?=g[d]?):fE b g' e v xs:=by
 rcases o with ⟨h1,h2⟩ | ⟨i,h1,h2,h3⟩
 ·exact .inl ⟨h1,h2⟩
 ·exact .inr ⟨i,h1,h2,by rw [h i _ h2 h1];exact h3⟩
theorem fE.lt {b:Nat} {g:ae} {e:TypeId} {v:Value} {xs:List Value} {d n:Nat} (o:fE b g e v xs) (h:v=sl e d 0 n):b≤d∧d<g.length∧g[d]?=some (.arr e xs):=by
 rcases o with ⟨h1,_⟩ | ⟨i,h1,h2,h3⟩
 ·rw [h1] at h;cases h
 ·rw [h2] at h
  obtain ⟨rfl,_⟩:=UU h
  exact ⟨h1,(bK h3).1,h3⟩
theorem mL {e:TypeId} {id n j:Nat} (hj:j<n):bc 1 (sl e id 0 n) (I j)=some (pt id j):=by
 have:(0:Int)≤(j:Int)∧(j:Int)<(n:Int):=by omega
 simp [sl,bc,this]
theorem cj {h:ae} {i:Nat} {o o':aq} (hg:h[i]?=some o'):(h.set i o)[i]?=some o:=by
 rw [List.getElem?_set_self (bK hg).1]
theorem O4 {P:Program} {F:FuncId} {cap:Array Value} {args:List Value} {h:ae} {K:Value→ae→Prop} (hF:qf P F=true) (hc:aj P F (args++cap.toList) h K):uI P (.func (.func F) #[] cap) args h K:=by
 rw [uH] at hc
 exact ⟨⟨hF,by simpa using hc⟩⟩
theorem CX.trans {a b c:ae} (h:CX a b) (k:CX b c):CX a c:=fun d cs hd=>k d cs (h d cs hd)
theorem CX.ex {a b:ae} (h:EX a b):CX a b:=fun _ _ hd=>h.cells hd
theorem CX.lR {g:ae} {im mb pn:Nat} {k k':fR} {es nW:List (Nat×Value×Value)} (hg:g[im]?=some (.cR k mb es)):CX g (g.set im (.cR k' pn nW)):=by
 intro d cs hd
 by_cases e:d=im
 ·subst e;simp [aR,hg] at hd
 ·unfold aR at hd⊢
  rw [List.getElem?_set_ne (fun x=>e x.symm)]
  exact hd
end
section
theorem XM.cx {im:Nat} {a b:ae} (h:XM im a b) {kd:IntKind} {es:List (Int×Value)} (hm:a[im]?=some (.kH kd es)):CX a b:=by
 intro d cs hc
 have hd:d≠im:=by
  rintro rfl
  simp [aR,hm] at hc
 have hl:d<a.length:=by
  apply byContradiction
  intro cK
  rw [aR,List.getElem?_eq_none (by omega)] at hc
  cases hc
 simpa [aR,h.2 d hl hd] using hc
theorem XM.Fh {im:Nat} {a h h':ae} (k:EX a h) (iG:a.length≤im) (x:XM im h h'):EX a h':=
 ⟨Nat.le_trans k.1 x.1,fun d hd=>by rw [x.2 d (lt_of_lt_of_le hd k.1) (by omega)];exact k.2 d hd⟩
def IS (h:ae) (e:TypeId) (aX:Nat) (v:Value) (cs:List Value) (n:Nat):Prop:=
 cs.length=n*aX∧((v=.slice none 0 0∧n=0)∨∃i,v=sl e i 0 n∧(n=0∨aR h i=some cs))
theorem IS.mono {h h':ae} {e:TypeId} {aX:Nat} {v:Value} {cs:List Value} {n:Nat} (k:EX h h') (p:IS h e aX v cs n):IS h' e aX v cs n:=
 ⟨p.1,p.2.imp id fun ⟨i,a,b⟩=>⟨i,a,b.imp id fun b=>k.cells b⟩⟩
theorem IS.len {h:ae} {e:TypeId} {aX:Nat} {v:Value} {cs:List Value} {n:Nat} (p:IS h e aX v cs n):bj v=some (I n):=by
 rcases p.2 with ⟨rfl,rfl⟩ | ⟨i,rfl,_⟩ <;> rfl
theorem IS.part {h:ae} {e:TypeId} {aX:Nat} {v:Value} {cs:List Value} {n m:Nat} (p:IS h e aX v cs n) (hm:m≤n):
  ∃v',mo e aX v none (some (I m))=some v'∧kL h aX v'=some (cs.take (m*aX))∧pP v'=some m:=by
 obtain ⟨hl,hv⟩:=p
 rcases hv with ⟨rfl,rfl⟩ | ⟨i,rfl,hc⟩
 ·have:m=0:=by omega
  subst this
  exact ⟨.slice none 0 0,rfl,by simp [kL],rfl⟩
 ·refine ⟨sl e i 0 m,?_,?_,rfl⟩
  ·have h1:(0:Int)≤(m:Int):=by omega
   simp [mo,sl,rM,sX,h1,hm]
  ·simp only [kL,sl]
   by_cases h0:m=0
   ·rw [if_pos h0,h0];simp
   ·have hc:=hc.resolve_left (by omega)
    have hle:m*aX≤n*aX:=Nat.mul_le_mul_right _ hm
    rw [if_neg h0,hc,bind_some,if_pos (by omega)]
    simp
def FE (h:ae) (e:TypeId) (v:Value) (ps:List (Int×Int)):Prop:=IS h e 2 v (rQ ps) ps.length
theorem FE.ps {h:ae} {e:TypeId} {v:Value} {ps:List (Int×Int)} (p:FE h e v ps):PS h v ps:=by
 rcases p.2 with ⟨rfl,h0⟩ | ⟨i,rfl,hc⟩
 ·have:ps=[]:=List.length_eq_zero_iff.1 h0
  subst this
  exact PS.nil h
 ·by_cases h0:ps.length=0
  ·have:ps=[]:=List.length_eq_zero_iff.1 h0
   subst this
   exact ⟨rfl,fun k hk=>by simp at hk⟩
  ·exact PS.sl (hc.resolve_left h0)
def WA (h:ae) (e:TypeId) (k:IntKind) (v:Value) (ns:List Int):Prop:=IS h e 1 v (ns.map (Value.int k)) ns.length
theorem WA.ns {h:ae} {e:TypeId} {k:IntKind} {v:Value} {ns:List Int} (p:WA h e k v ns) (hl:ns.length≤maxLen):NS h v k ns:=by
 rcases p.2 with ⟨rfl,h0⟩ | ⟨i,rfl,hc⟩
 ·have:ns=[]:=List.length_eq_zero_iff.1 h0
  subst this
  exact NS.nil h k
 ·exact NS.sl (hc.imp (fun h=>List.length_eq_zero_iff.1 h) id) hl
theorem PS.arr {h:ae} {e:TypeId} {i:Nat} {ps:List (Int×Int)} (hg:h[i]?=some (.arr e (rQ ps))):PS h (Go.Sim.sl e i 0 ps.length) ps:=PS.sl (by simp [aR,hg])
theorem NS.arr {h:ae} {e:TypeId} {i:Nat} {k:IntKind} {ns:List Int} (hg:h[i]?=some (.arr e (ns.map (Value.int k)))) (hl:ns.length≤maxLen):NS h (Go.Sim.sl e i 0 ns.length) k ns:=NS.sl (.inr (by simp [aR,hg])) hl
end
section
abbrev FC:=Option (Exit×(Nat→Value)×ae)
abbrev kR:=Fn→List Value→ae→Option (Value×ae)
def K5:Value→Value→Bool
 | .int k a,.int k' b=>decide (k=k')&&decide (a=b)
 | .bool a,.bool b=>a==b
 | .string s,.string t=>decide (bytes s=bytes t)
 | .pointer (some ⟨i,o,none⟩),.pointer (some ⟨j,p,none⟩)=>Nat.beq i j&&Nat.beq o p
 | .slice none a b,.slice none c d=>Nat.beq a c&&Nat.beq b d
 | .slice (some ⟨i,o,some e⟩) a b,.slice (some ⟨j,p,some e'⟩) c d=>Nat.beq i j&&Nat.beq o p&&Nat.beq e e'&&Nat.beq a c&&Nat.beq b d
 | _,_=>false
theorem al6 {a b:Value} (h:K5 a b=true):a=b:=by
 unfold K5 at h
 split at h
 ·simp at h;rw [h.1,h.2]
 ·simp at h;rw [h]
 ·rename_i s t
  simp at h
  have:=Ex s
  rw [h,Ex] at this
  rw [this]
 ·simp only [and_eq_true] at h
  rw [eq_of_beq_eq_true h.1,eq_of_beq_eq_true h.2]
 ·simp only [and_eq_true] at h
  rw [eq_of_beq_eq_true h.1,eq_of_beq_eq_true h.2]
 ·simp only [and_eq_true] at h
  obtain ⟨⟨⟨⟨h1,h2⟩,h3⟩,h4⟩,h5⟩:=h
  rw [eq_of_beq_eq_true h1,eq_of_beq_eq_true h2,eq_of_beq_eq_true h3,eq_of_beq_eq_true h4,eq_of_beq_eq_true h5]
 ·cases h
def xJ:List Value→List Value→Bool
 | [],[]=>true
 | x::xs,y::ys=>K5 x y&&xJ xs ys
 | _,_=>false
theorem Cl:∀{xs ys:List Value},xJ xs ys=true→xs=ys
 | [],[],_=>rfl
 | x::xs,y::ys,h=>by
  simp only [xJ,and_eq_true] at h
  rw [al6 h.1,Cl h.2]
 | [],_::_,h=>by cases h
 | _::_,[],h=>by cases h
def K4:Value→Value→Bool
 | .agg xs,.agg ys=>xJ xs.toList ys.toList
 | a,b=>K5 a b
theorem al7 {a b:Value} (h:K4 a b=true):a=b:=by
 unfold K4 at h
 split at h
 ·rw [Array.ext' (Cl h)]
 ·exact al6 h
def uh (P:Program) (call:kR) (io:gT) (f:Nat→Value) (h:ae):Option (Value×ae):=
 match io with
 | .p o=>match jx o (ev f) with | some v=>some (v,h) | none=>none
 | .l o=>match fF o (ev f) h with | some v=>some (v,h) | none=>none
 | .e o=>fZ o (ev f) h
 | .call g args=>call (.func g) (args.map (ev f)) h
 | .kS x args=>
  match ev f x with
  | .func (.func g) first cap=>if qf P g=true then call (.func g) (first.toList++args.map (ev f)++cap.toList) h else none
  | .func (.yield i) first cap=>if first.size=0∧cap.size=0 then call (.yield i) (args.map (ev f)) h else none
  | _=>none
structure sg (P:Program) (call:kR):Prop where
 fn:∀F args h v h',call (.func F) args h=some (v,h')→wz P F args h v h'
 yi:∀i args h v h',call (.yield i) args h=some (v,h')→LB P i args h v h'
section
variable {P : Program} {call : kR} (HC : sg P call)
include HC
theorem EH {io:gT} {f:Nat→Value} {h h':ae} {v:Value} {K:Value→ae→Prop} (he:uh P call io f h=some (v,h')) (hk:K v h'):dd P io f h K:=by
 cases io with
 | p o=>
  simp only [uh] at he
  split at he
  ·rename_i u hu
   simp at he
   obtain ⟨rfl,rfl⟩:=he
   simp [dd,fG,hu,hk]
  ·cases he
 | l o=>
  simp only [uh] at he
  split at he
  ·rename_i u hu
   simp at he
   obtain ⟨rfl,rfl⟩:=he
   simp [dd,fG,hu,hk]
  ·cases he
 | e o=>
  simp only [uh] at he
  simp [dd,nG,he,hk]
 | call g args=>exact ⟨v,h',HC.fn _ _ _ _ _ he,hk⟩
 | kS x args=>
  simp only [uh] at he
  simp only [dd,tD]
  split at he
  ·rename_i g first cap hx
   rw [hx]
   split at he
   ·rename_i mQ
    exact ⟨mQ,v,h',HC.fn _ _ _ _ _ he,hk⟩
   ·cases he
  ·rename_i i first cap hx
   rw [hx]
   split at he
   ·rename_i hs
    exact ⟨⟨Array.eq_empty_of_size_eq_zero hs.1,Array.eq_empty_of_size_eq_zero hs.2⟩,v,h',HC.yi _ _ _ _ _ he,hk⟩
   ·cases he
  ·cases he
end
def A5 (P:Program) (call:kR):List je→(Nat→Value)→ae→Option ((Nat→Value)×ae)
 | [],f,h=>some (f,h)
 | o::os,f,h=>match uh P call o.op f h with | some (v,h')=>A5 P call os (dK f o.dst v) h' | none=>none
def SD (P:Program) (call:kR) (g:Option (Nat×Bool)) (l:List je) (f:Nat→Value) (h:ae):Option ((Nat→Value)×ae):=
 match g with
 | none=>A5 P call l f h
 | some (s,b)=>match f s with
  | .bool c=>if (c==b)=true then A5 P call l f h else some (Ck l f,h)
  | .complex _ _ _=>none
  | _=>some (Ck l f,h)
def E0 (pre:Nat) (lo:pe) (f:Nat→Value) (v:Value):List (Nat×ae)→Bool
 | []=>true
 | (e,H)::r=>if pre.testBit e=true then E0 pre lo f v r else (match fF lo (ev f) H with | some u=>K4 u v | none=>false)&&E0 pre lo f v r
def yr (pre:Nat) (H:ae):eP→Bool
 | []=>true
 | (j,lo,f,v)::r=>if pre.testBit j=true then yr pre H r else (match fF lo (ev f) H with | some u=>K4 u v | none=>false)&&yr pre H r
theorem T9 {pre:Nat} {lo:pe} {f:Nat→Value} {v:Value}:∀{l:List (Nat×ae)},E0 pre lo f v l=true→wK pre lo f v l
 | [],_=>trivial
 | (e,H)::r,h=>by
  simp only [E0] at h
  simp only [wK]
  split at h
  ·rename_i hb;rw [if_pos hb];exact T9 h
  ·rename_i hb
   rw [if_neg hb]
   simp only [and_eq_true] at h
   refine ⟨?_,T9 h.2⟩
   have h1:=h.1
   split at h1
   ·rename_i u hu;rw [hu,al7 h1]
   ·cases h1
theorem yu {pre:Nat} {H:ae}:∀{l:eP},yr pre H l=true→lC pre H l
 | [],_=>trivial
 | (j,lo,f,v)::r,h=>by
  simp only [yr] at h
  simp only [lC]
  split at h
  ·rename_i hb;rw [if_pos hb];exact yu h
  ·rename_i hb
   rw [if_neg hb]
   simp only [and_eq_true] at h
   refine ⟨?_,yu h.2⟩
   have h1:=h.1
   split at h1
   ·rename_i u hu;rw [hu,al7 h1]
   ·cases h1
abbrev Wy:=Option (List (Nat×ae)×eP×(Nat→Value)×ae)
def uV (P:Program) (call:kR):List j6→Nat→List (Nat×ae)→eP→(Nat→Value)→ae→Wy
 | [],_,aN,aI,f,h=>some (aN,aI,f,h)
 | o::os,j,aN,aI,f,h=>
  match uh P call o.op f h with
  | some (v,h')=>
   match o.op with
   | .p _=>uV P call os (j+1) aN aI (dK f o.dst v) h'
   | .l lo=>if E0 o.pre lo f v aN=true then uV P call os (j+1) aN (aI++[(j,lo,f,v)]) (dK f o.dst v) h' else none
   | .e (.fl _)=>
    match dZ h' v with
    | some u=>if yr o.pre h' aI=true then uV P call os (j+1) (aN++[(j,h)]) (aI++[(j,.obj (.const v),f,u)]) (dK f o.dst v) h' else none
    | none=>none
   | _=>if yr o.pre h' aI=true then uV P call os (j+1) (aN++[(j,h)]) aI (dK f o.dst v) h' else none
  | none=>none
def A3:List j6→Nat→List (Nat×ae)→eP→(Nat→Value)→ae→Wy
 | [],_,aN,aI,f,h=>some (aN,aI,f,h)
 | o::os,j,aN,aI,f,h=>
  match o.op.dJ with
  | false=>A3 os (j+1) aN aI (dK f o.dst undef) h
  | true=>if yr o.pre h aI=true then A3 os (j+1) (aN++[(j,h)]) aI (dK f o.dst undef) h else none
def yw (P:Program) (call:kR):List (Option (Nat×Bool)×List j6)→Nat→List (Nat×ae)→eP→(Nat→Value)→ae→Option ((Nat→Value)×ae)
 | [],_,_,_,f,h=>some (f,h)
 | (none,l)::gs,j,aN,aI,f,h=>
  match uV P call l j aN aI f h with
  | some (aN,aI,f,h)=>yw P call gs (j+l.length) aN aI f h
  | none=>none
 | (some (s,b),l)::gs,j,aN,aI,f,h=>
  match f s with
  | .bool c=>
   match (if (c==b)=true then uV P call l j aN aI f h else A3 l j aN aI f h) with
   | some (aN,aI,f,h)=>yw P call gs (j+l.length) aN aI f h
   | none=>none
  | _=>none
section
variable {P : Program} {call : kR} (HC : sg P call)
include HC in
theorem P8:∀{l:List je} {f f':Nat→Value} {h h':ae} {K:(Nat→Value)→ae→Prop},A5 P call l f h=some (f',h')→K f' h'→wV P l K f h
 | [],f,f',h,h',K,he,hk=>by simp [A5] at he;obtain ⟨rfl,rfl⟩:=he;exact hk
 | o::os,f,f',h,h',K,he,hk=>by
  simp only [A5] at he
  split at he
  ·rename_i v h1 ho
   exact EH HC ho (P8 he hk)
  ·cases he
include HC in
theorem ayX {g:Option (Nat×Bool)} {l:List je} {f f':Nat→Value} {h h':ae} {K:(Nat→Value)→ae→Prop} (he:SD P call g l f h=some (f',h')) (hk:K f' h'):ta P g l K f h:=by
 cases g with
 | none=>exact P8 HC he hk
 | some sb=>
  obtain ⟨s,b⟩:=sb
  simp only [SD] at he
  simp only [ta,kA]
  split at he
  ·rename_i c hc
   rw [hc]
   simp only
   split at he
   ·rename_i hb;rw [if_pos hb];exact P8 HC he hk
   ·rename_i hb;rw [if_neg hb];simp at he;obtain ⟨rfl,rfl⟩:=he;exact hk
  ·cases he
  ·rename_i h1 h2
   simp at he
   obtain ⟨rfl,rfl⟩:=he
   split
   ·rename_i c hc;exact absurd hc (h1 c)
   ·rename_i a b c hc;exact absurd hc (h2 a b c)
   ·exact hk
include HC in
theorem wU:∀{l:List j6} {j:Nat} {aN pC:List (Nat×ae)} {aI oZ:eP} {f f':Nat→Value} {h h':ae} {K:List (Nat×ae)→eP→(Nat→Value)→ae→Prop},
  uV P call l j aN aI f h=some (pC,oZ,f',h')→K pC oZ f' h'→oN P l j aN aI K f h
 | [],j,aN,pC,aI,oZ,f,f',h,h',K,he,hk=>by simp [uV] at he;obtain ⟨rfl,rfl,rfl,rfl⟩:=he;exact hk
 | o::os,j,aN,pC,aI,oZ,f,f',h,h',K,he,hk=>by
  simp only [uV] at he
  simp only [oN]
  split at he
  ·rename_i v h1 ho
   cases c8:o.op with
   | p po=>
    rw [c8] at ho he
    simp only at he
    have:=EH (K:=fun v h'=>oN P os (j+1) aN aI K (dK f o.dst v) h') HC ho (wU he hk)
    simp only [kT]
    simp only [dd] at this
    simp only [uh] at ho
    split at ho
    ·rename_i u hu
     simp at ho
     obtain ⟨rfl,rfl⟩:=ho
     exact this
    ·cases ho
   | l lo=>
    rw [c8] at ho he
    simp only at he
    split at he
    ·rename_i hp
     simp only [uh] at ho
     split at ho
     ·rename_i u hu
      simp at ho
      obtain ⟨rfl,rfl⟩:=ho
      simp only [kT,fG,hu]
      exact ⟨T9 hp,wU he hk⟩
     ·cases ho
    ·cases he
   | e eo=>
    cases eo with
    | fl a=>
     rw [c8] at ho he
     simp only at he
     split at he
     ·rename_i u hu
      split at he
      ·rename_i hp
       simp only [uh] at ho
       simp only [kT,ho,nG,hu,fG]
       exact ⟨yu hp,wU he hk⟩
      ·cases he
     ·cases he
    | _=>
    rw [c8] at ho he
    simp only at he
    split at he
    ·rename_i hp
     exact EH (io:=.e _) (K:=fun v h'=>lC o.pre h' aI∧oN P os (j+1) (aN++[(j,h)]) aI K (dK f o.dst v) h') HC ho ⟨yu hp,wU he hk⟩
    ·cases he
   | call g args=>
    rw [c8] at ho he
    simp only at he
    split at he
    ·rename_i hp
     exact EH (io:=.call g args) (K:=fun v h'=>lC o.pre h' aI∧oN P os (j+1) (aN++[(j,h)]) aI K (dK f o.dst v) h') HC ho ⟨yu hp,wU he hk⟩
    ·cases he
   | kS x args=>
    rw [c8] at ho he
    simp only at he
    split at he
    ·rename_i hp
     exact EH (io:=.kS x args) (K:=fun v h'=>lC o.pre h' aI∧oN P os (j+1) (aN++[(j,h)]) aI K (dK f o.dst v) h') HC ho ⟨yu hp,wU he hk⟩
    ·cases he
  ·cases he
theorem P2:∀{l:List j6} {j:Nat} {aN pC:List (Nat×ae)} {aI oZ:eP} {f f':Nat→Value} {h h':ae} {K:List (Nat×ae)→eP→(Nat→Value)→ae→Prop},
  A3 l j aN aI f h=some (pC,oZ,f',h')→K pC oZ f' h'→uW l j aN aI K f h
 | [],j,aN,pC,aI,oZ,f,f',h,h',K,he,hk=>by simp [A3] at he;obtain ⟨rfl,rfl,rfl,rfl⟩:=he;exact hk
 | o::os,j,aN,pC,aI,oZ,f,f',h,h',K,he,hk=>by
  simp only [A3] at he
  simp only [uW,wO]
  cases ho:o.op.dJ with
  | false=>rw [ho] at he;exact P2 he hk
  | true=>
   rw [ho] at he
   simp only at he
   split at he
   ·rename_i hp;exact ⟨yu hp,P2 he hk⟩
   ·cases he
include HC in
theorem Ih:∀{gs:List (Option (Nat×Bool)×List j6)} {j:Nat} {aN:List (Nat×ae)} {aI:eP} {f f':Nat→Value} {h h':ae} {K:(Nat→Value)→ae→Prop},
  yw P call gs j aN aI f h=some (f',h')→K f' h'→nY P gs j aN aI K f h
 | [],j,aN,aI,f,f',h,h',K,he,hk=>by simp [yw] at he;obtain ⟨rfl,rfl⟩:=he;exact hk
 | (none,l)::gs,j,aN,aI,f,f',h,h',K,he,hk=>by
  simp only [yw] at he
  simp only [nY]
  split at he
  ·rename_i hs ls f1 h1 hr
   exact wU HC hr (Ih he hk)
  ·cases he
 | (some (s,b),l)::gs,j,aN,aI,f,f',h,h',K,he,hk=>by
  simp only [yw] at he
  simp only [nY,kA]
  split at he
  ·rename_i c hc
   rw [hc]
   simp only
   split at he
   ·rename_i hs ls f1 h1 hr
    split at hr
    ·rename_i hb;rw [if_pos hb];exact wU HC hr (Ih he hk)
    ·rename_i hb;rw [if_neg hb];exact P2 hr (Ih he hk)
   ·cases he
  ·cases he
end
def zK (body:(Nat→Value)→ae→FC) (ls:List Nat):Nat→List Value→ae→FC
 | 0,_,_=>none
 | n+1,xs,h=>match body (kj ls xs) h with
  | some (.normal,f',h')=>zK body ls n (ls.map f') h'
  | r=>r
def RF (h:ae) (i:Nat):Bool:=match h[i]? with | some (.loop _ _ _)=>true | _=>false
def I5 (h:ae) (i:Nat):Bool:=match h[i]? with | some .dead=>true | _=>false
noncomputable def lF (P:Program) (call:kR) (n:Nat) (c:fa):(Nat→Value)→ae→FC:=
 fa.rec (motive:=fun _=>(Nat→Value)→ae→FC)
  (fun f h=>some (.normal,f,h))
  (fun l f h=>match yw P call l 0 [] [] f h with | some (f',h')=>some (.normal,f',h') | none=>none)
  (fun g l f h=>match SD P call g l f h with | some (f',h')=>some (.normal,f',h') | none=>none)
  (fun _ _ ea eb f h=>match ea f h with | some (.normal,f',h')=>eb f' h' | r=>r)
  (fun ls _ ec f h=>ec (kj ls (ls.map f)) h)
  (fun c _ _ ea eb f h=>match ev f c with | .bool true=>ea f h | .bool false=>eb f h | _=>none)
  (fun id _ ec f h=>match ec f h with | some (.exit i,f',h')=>if i=id then some (.normal,f',h') else some (.exit i,f',h') | r=>r)
  (fun ks ls _ ec f h=>match ks with | []=>zK ec ls n (ls.map f) h | _=>none)
  (fun id f h=>some (.exit id,f,h))
  (fun f h=>some (.ret,f,h))
  (fun g ls c f h=>match ev f g with
   | .func (.func F) first cap=>
    if qf P F=true then
     match call (.func F) (first.toList++[.func (.yield h.length) #[] #[]]++cap.toList) (h++[.loop c ls (ls.map f)]) with
     | some (_,h')=>if RF h' h.length=true then some (.normal,f,h'.set h.length .dead) else none
     | none=>none
    else none
   | _=>none) c
theorem ax6 {p:Nat→Prop}:∀n,p n→∃m,p m∧∀k,p k→m≤k:=by
 intro n
 induction n using Nat.strongRecOn with
 | _ n ih=>
  intro hn
  by_cases h:∃m,m<n∧p m
  ·obtain ⟨m,h1,h2⟩:=h;exact ih m h1 h2
  ·exact ⟨n,hn,fun k hk=>Nat.le_of_not_lt fun aD=>h ⟨k,aD,hk⟩⟩
theorem aw9 {h:ae} {i:Nat} (hl:RF h i=true):∃c ls vs,h[i]?=some (.loop c ls vs):=by
 unfold RF at hl
 split at hl
 ·rename_i c ls vs hh;exact ⟨c,ls,vs,hh⟩
 ·cases hl
theorem aeD {h:ae} {i:Nat} (hl:I5 h i=true):h[i]?=some .dead:=by
 unfold I5 at hl
 split at hl
 ·assumption
 ·cases hl
theorem PC {P:Program} {call:kR} (HC:sg P call) {n:Nat} {c:fa}:∀{f f':Nat→Value} {h h':ae} {e:Exit} {K:ar},lF P call n c f h=some (e,f',h')→K e f' h'→iV P c K f h:=by
 induction c with
 | skip=>intro f f' h h' e K he hk;simp [lF] at he;obtain ⟨rfl,rfl,rfl⟩:=he;exact hk
 | HN l=>
  intro f f' h h' e K he hk
  simp only [lF] at he
  split at he
  ·rename_i f1 h1 hg
   simp at he
   obtain ⟨rfl,rfl,rfl⟩:=he
   exact Ih HC hg hk
  ·cases he
 | ops g l=>
  intro f f' h h' e K he hk
  simp only [lF] at he
  split at he
  ·rename_i f1 h1 hg
   simp at he
   obtain ⟨rfl,rfl,rfl⟩:=he
   exact ayX HC hg hk
  ·cases he
 | seq a b rO sQ=>
  intro f f' h h' e K he hk
  have fK:(match lF P call n a f h with | some (.normal,f',h')=>lF P call n b f' h' | r=>r)=some (e,f',h'):=he
  show iV P a (aF (iV P b K) K) f h
  split at fK
  ·rename_i f1 h1 h2
   exact rO h2 (sQ fK hk)
  ·rename_i h1
   refine rO fK ?_
   cases e <;> first | exact hk | exact absurd fK (h1 _ _)
 | cut ls c ih=>intro f f' h h' e K he hk;exact ih (K:=K) he hk
 | cond c a b rO sQ=>
  intro f f' h h' e K he hk
  have fK:(match ev f c with | .bool true=>lF P call n a f h | .bool false=>lF P call n b f h | _=>none)=some (e,f',h'):=he
  rw [aeI]
  split at fK
  ·rename_i hc;rw [hc];exact rO fK hk
  ·rename_i hc;rw [hc];exact sQ fK hk
  ·cases fK
 | block id c ih=>
  intro f f' h h' e K he hk
  have fK:(match lF P call n c f h with | some (.exit i,f',h')=>if i=id then some (.normal,f',h') else some (.exit i,f',h') | r=>r)=some (e,f',h'):=he
  show iV P c (bN id K) f h
  split at fK
  ·rename_i i f1 h1 h2
   refine ih h2 ?_
   simp only [bN]
   split at fK
   ·rename_i iG;simp at fK;obtain ⟨rfl,rfl,rfl⟩:=fK;rw [if_pos iG];exact hk
   ·rename_i iG;simp at fK;obtain ⟨rfl,rfl,rfl⟩:=fK;rw [if_neg iG];exact hk
  ·rename_i h1
   refine ih fK ?_
   cases e with
   | exit i=>exact absurd fK (h1 _ _ _)
   | _=>exact hk
 | loop ks ls c ih=>
  intro f f' h h' e K he hk
  cases ks with
  | cons k ks=>cases he
  | nil=>
   have fK:zK (lF P call n c) ls n (ls.map f) h=some (e,f',h'):=he
   show zL (ls.map f) h fun L xs hx=>iV P c (aF (fun f' aT=>([]:List Nat).map f'=[].map f∧L (ls.map f') aT) K) (kj ([]++ls) (([]:List Nat).map f++xs)) hx
   let J:List Value→ae→Prop:=fun ys hy=>∃m,zK (lF P call n c) ls m ys hy=some (e,f',h')
   have least:∀ys hy,J ys hy→∃m,zK (lF P call n c) ls m ys hy=some (e,f',h')∧∀k,zK (lF P call n c) ls k ys hy=some (e,f',h')→m≤k:=fun ys hy ⟨m,hm⟩=>ax6 m hm
   classical
   let μ:List Value→ae→Nat:=fun ys hy=>if hJ:J ys hy then Classical.choose (least ys hy hJ) else 0
   refine ⟨J,μ,⟨n,fK⟩,?_⟩
   intro xs hx hJ
   have D3:=Classical.choose_spec (least xs hx hJ)
   have hμ:μ xs hx=Classical.choose (least xs hx hJ):=dif_pos hJ
   rw [←hμ] at D3
   obtain ⟨h1,h2⟩:=D3
   generalize μ xs hx=m at h1 h2
   cases m with
   | zero=>cases h1
   | succ m=>
    simp only [zK] at h1
    simp only [List.map_nil,List.nil_append]
    split at h1
    ·rename_i f1 g1 hb
     refine ih hb ?_
     refine ⟨trivial,⟨m,h1⟩,?_⟩
     have A9:J (ls.map f1) g1:=⟨m,h1⟩
     have dP:=Classical.choose_spec (least _ _ A9)
     have awQ:μ (ls.map f1) g1=Classical.choose (least _ _ A9):=dif_pos A9
     rw [awQ]
     exact Nat.lt_succ_of_le (dP.2 m h1)
    ·rename_i hn
     refine ih h1 ?_
     cases e with
     | normal=>exact absurd h1 (hn _ _)
     | _=>exact hk
 | exit id=>intro f f' h h' e K he hk;simp [lF] at he;obtain ⟨rfl,rfl,rfl⟩:=he;exact hk
 | ret=>intro f f' h h' e K he hk;simp [lF] at he;obtain ⟨rfl,rfl,rfl⟩:=he;exact hk
 | range g ls c=>
  intro f f' h h' e K he hk
  simp only [lF] at he
  show uk P (ev f g) ls (ls.map f) c h (K .normal f)
  unfold uk
  split at he
  ·rename_i F first cap hg
   rw [hg]
   split at he
   ·rename_i mQ
    split at he
    ·rename_i v h1 hc
     split at he
     ·rename_i hl
      simp at he
      obtain ⟨rfl,rfl,rfl⟩:=he
      exact ⟨mQ,v,h1,HC.fn _ _ _ _ _ hc,aw9 hl,hk⟩
     ·cases he
    ·cases he
   ·cases he
  ·cases he
theorem Ku:∀{rs:List ky} {f:Nat→Value} {h:ae} {vs:List Value} {k:List Value→Prop},oX rs f h=some vs→k vs→v3 rs f h k
 | [],f,h,vs,k,he,hk=>by simp [oX] at he;subst he;exact hk
 | .tmp t::rs,f,h,vs,k,he,hk=>by
  simp only [oX,xw] at he
  split at he
  ·rename_i v jG h1 h2
   simp only [Option.some.injEq] at h1 he
   subst h1
   subst he
   exact Ku (rs:=rs) h2 hk
  ·cases he
 | .cell agg n a::rs,f,h,vs,k,he,hk=>by
  simp only [oX,xw] at he
  split at he
  ·rename_i v jG h1 h2
   simp at he
   subst he
   simp only [v3,fG,h1]
   exact Ku h2 hk
  ·cases he
end
end Go.Sim
namespace Go.Proofs.YtelmdbpaoifmoaaGreat
open Go.Sim
section
def evH:FuncId→Hints
 | 11=>[[],[],[],[],[0,3,4],[0,3,4,12],[0,3,4,12,14],[],[],[],[],[],[0,3,4,5,6],[0,3,4,5,6,32],[0,3,4,5,6,32,34],[],[],[],[0,3,4,5],[0,3,4],[3],[]]
 | 12=>[[],[],[],[],[1,7,25],[1,7,25,32],[],[],[],[],[],[],[],[],[]]
 | 13=>[[],[],[],[],[0,3,4],[],[],[],[],[],[0,3,4,5,6],[],[],[],[],[],[0,3,4,5],[0,3,4,5,44],[0,3,4,5,44,51],[],[],[],[],[],[0,3,4,5,7],[],[],[],[0,3,4,5,7,8,82],[0,3,4,5,7,8,82,86],[0,3,4,5,7,8,88],[0,3,4,5,7,8,88,98],[0,3,4,5,7,8,88,98,102],[0,3,4,5,7,8,88,103],[],[0,3,4,5,7],[0,3,4,5],[],[0,3,4],[0,3],[],[3],[]]
 | 14=>[[],[],[],[],[],[],[],[3,4,5,6,8,9,10,11,12,46],[4,5,6,8,9,10,11,12,46,48],[4,5,6,8,9,10,11,12,50],[5,6,8,9,10,11,12,50,52],[5,6,8,9,10,11,12,54],[6,8,9,10,11,12,54,58],[6,8,9,10,11,12,60],[8,9,10,11,12,60,62],[8,9,10,11,12,64],[9,10,11,12,64,66],[9,10,11,12,68],[10,11,12,68,70],[10,11,12,72],[11,12,72,74],[11,12,76],[12,76,78],[12,80],[80,82],[]]
 | 15=>[[],[],[],[],[],[1,2,4,6,7,8,9],[],[],[],[],[],[1,2,4,6,7,8,9],[4,6,7],[]]
 | 16=>[[],[],[0,5,13],[13,16],[]]
 | 17=>[[],[]]
 | 18=>[[],[],[],[],[],[],[]]
 | 19=>[[],[],[],[],[],[],[],[],[],[0,7,9,10,11],[],[],[],[],[],[0,7,9,10,11,12,32,33,34],[],[],[],[],[],[],[9,10],[]]
 | 20=>[[],[]]
 | 21=>[[],[],[],[],[],[],[]]
 | 22=>[[],[],[],[],[0,1,2,3,8,9,10,11],[],[],[],[],[0,1,2,3,8,9,10,11],[0,1,2,3,8,9,10],[],[],[],[],[],[],[0,1,2,3,8,9,10,14,15,16],[],[],[0,1,2,3,8,9,10,14,15,16,17],[],[],[0,1,2,3,8,9,10,14,15,16,17,74],[0,1,2,3,8,9,10,14,15,16,17,74,76],[0,1,2,3,8,9,10,14,15,16,17,74,76,79],[0,1,2,3,8,9,10,14,15,16,17,74,80],[],[],[],[],[],[],[],[0,1,2,3,8,9,10,14,15,16,17,18,19,20,21],[],[],[0,1,2,3,8,9,10,14,15,16,17,21,146],[0,1,2,3,8,9,10,14,15,16,17,21,146,150],[],[0,1,2,3,8,9,10,14,15,16,17],[3,8,9,14],[],[]]
 | 23=>[[],[],[],[],[1,3,4],[],[],[],[3],[]]
 | 24=>[[],[],[]]
 | 25=>[[],[],[],[],[]]
 | 26=>[[],[]]
 | 27=>[[],[]]
 | 28=>[[],[],[]]
 | 29=>[[],[]]
 | 30=>[[],[],[1,2],[]]
 | 31=>[[],[],[],[],[],[],[],[],[8,20,21,22],[],[],[],[],[8],[]]
 | 32=>[[],[],[],[],[],[],[],[],[6,8,20,21,22],[],[],[],[],[8],[]]
 | 33=>[[],[],[],[0,1,5],[],[],[0,1,5,23],[0,1,5,23,30],[],[],[],[0,1],[],[],[0,1,6],[],[],[],[],[],[0,1],[0,1,77],[0,1,77,80],[],[],[],[],[],[],[0,1,7,8],[],[],[],[],[0,1,7,8,9],[],[],[],[0,1,7,8,9],[0,1,7,8],[7],[]]
 | 34=>[[],[],[],[],[0,1,5,6,7],[],[],[],[],[],[0,1,5,6,7,8,9,10,11],[],[],[],[],[],[0,1,5,6,7,8,9,10,11,12,13],[0,1,5,6,7,8,9,10,11,12,13,39],[0,1,5,6,7,8,9,10,11,12,13,39,40],[],[],[0,1,5,6,7,8,9,10,11,13,49],[0,1,5,6,7,8,9,10,11,13,49,57],[],[0,1,5,6,7,8,9,10,11,12],[],[],[],[0,1,5,6,7,8,9,10,11,14,15,70],[0,1,5,6,7,8,9,10,11,14,15,70,77],[],[],[0,1,5,6,7,8,9,10,11],[0,1,5,6,7,8],[],[],[],[0,1,5,6,7,8,16,17],[],[],[],[0,1,5,6,7,8,16,17],[0,1,5,6,7,8,16],[6],[]]
 | 35=>[[],[],[],[],[],[],[0,1,5],[],[],[],[],[],[],[]]
 | 36=>[[],[],[],[],[0,1,6,7,8],[],[],[],[0,1,6,7,8],[6,7],[]]
 | 37=>[[],[],[],[],[0,1,2,3,10,11,12],[0,1,2,3,10,11,12,22],[0,1,2,3,10,11,12,22,25],[],[],[],[1,10,11],[],[1,10,11],[],[],[1,10,11,13],[1,10,11,13,63],[1,10,11,13,63,65],[],[],[],[],[],[],[1,10,11,13],[10,11],[]]
 | 38=>[[],[],[],[0,3],[],[],[],[],[],[],[]]
 | 39=>[[],[],[],[],[0,1,2,7,8],[],[],[0,1,2,7,8,24],[0,1,2,7,8,24,32],[0,1,2,7,8,34],[0,1,2,7,8,34,43],[],[],[],[],[0,2],[]]
 | 40=>[[],[],[],[],[0,1,5,6,7],[],[],[],[],[6],[]]
 | 41=>[[],[],[],[],[],[],[],[],[],[],[],[6,8,25,26,27],[],[],[],[6,8,9,10,25,26,27,34],[6,8,9,10,25,26,27,34,42],[],[],[],[],[6,8],[],[],[],[],[]]
 | 42=>[[],[],[],[],[0,1,5,6,7],[],[],[],[],[],[],[0,1,5,6,7],[6],[]]
 | 43=>[[],[],[],[],[0,4,11,12,13],[],[],[],[],[],[],[],[],[0,4],[0,4,38],[4,38,41],[],[],[],[],[],[4,43,44,45],[],[],[],[4,10,43,44,45,53],[4,10,43,44,45,53,57],[4,10,43,44,45,59],[4,10,43,44,45,59,63],[4,10,43,44,45,65],[4,10,43,44,45,65,69],[4,10,43,44,45,71],[4,10,43,44,45,71,81],[],[],[],[4,10,43,44,45,86],[4,43,44,45,86,91],[],[],[],[4],[]]
 | 44=>[[],[],[],[],[],[1,2,4,6,7,8,9,10],[],[],[],[],[],[1,2,4,6,7,8,9,10,11,52],[1,2,4,6,7,8,9,10,11,52,56],[],[1,2,4,6,7,8,9,10],[4,6,7],[]]
 | 45=>[[],[],[],[],[],[],[1,4],[],[],[],[],[],[],[],[]]
 | 46=>[[],[0,2,10],[10,13],[]]
 | 47=>[[],[],[],[],[0,1,5,6],[],[],[],[],[0,1,5,6],[],[],[0,1,5,6],[],[]]
 | 48=>[[],[],[],[],[],[],[],[]]
 | 49=>[[],[0,1,9],[9,13],[]]
 | 50=>[[],[],[],[],[2,4,5,6],[],[],[],[4,5],[]]
 | 51=>[[],[]]
 | 52=>[[],[]]
 | 53=>[[],[],[],[1,4,5,18],[1,4,5,18,21],[],[],[],[],[4,5],[],[4],[]]
 | 54=>[[],[],[2,3,4],[]]
 | 55=>[[],[],[],[0,2,3],[],[],[],[],[0,2,3,4],[],[2,3],[]]
 | 56=>[[],[]]
 | 57=>[[],[],[],[],[],[],[],[],[0,2,3,5,8,11,31,32,33],[],[],[],[],[0,2,3,5,8,11,31,32,33],[0,2,3,5,8,11],[],[],[],[0,2,3,5,8,11,14,15,50,51,52],[],[],[],[0,2,3,5,8,11,14,15,16,17,50,51,52,61],[0,2,3,5,8,11,14,15,16,17,50,51,52,61,66],[],[],[],[],[],[],[],[],[0,2,3,5,8,11,14,15,21,50,51,52],[0,2,3,5,8,11,14,15,21,50,51,52,119],[0,2,3,5,8,11,14,15,21,50,51,52,119,123],[],[0,2,3,5,8,11,14,15,50,51,52],[3,5,8,14],[],[]]
 | 58=>[[],[],[],[],[2,3,7,8],[],[],[],[],[2,3],[]]
 | 59=>[[],[],[0,1,6,18],[0,1,6,18,20],[0,1,6,22],[0,1,6,22,25],[],[],[],[],[],[],[1,6,7,32,33,34],[],[],[],[1,6,7,9,32,33,34,41],[1,6,7,9,32,33,34,41,44],[1,6,7,9,32,33,34,46],[1,6,7,9,32,33,34,46,49],[1,6,7,9,32,33,34,51],[1,6,7,32,33,34,51,54],[],[],[],[1,6,7],[],[],[6,7,57,58,59],[],[],[],[6,7,11,57,58,59,69],[6,7,11,57,58,59,69,76],[6,7,11,57,58,59,78],[6,7,11,57,58,59,78,83],[],[],[],[],[6,7],[],[],[],[6,7,12,99,100],[],[],[],[],[6,7,12,99,100,102,103],[],[],[],[],[6,7,12,99,100,102,103],[6,7,12,99,100],[7,12],[]]
 | 60=>[[],[],[],[],[],[]]
 | 61=>[[],[]]
 | 62=>[[],[],[],[],[0,5,9,10,11],[],[],[],[],[5],[]]
 | 63=>[[],[0,1,2,11],[11,21],[]]
 | 64=>[[],[]]
 | 65=>[[],[],[],[],[],[3,5,6,11,12,13],[],[],[],[],[],[],[3,5,6,7,9,11,12,13,32],[3,5,6,7,9,11,12,13,32,36],[],[3,5,6,11,12,13],[5],[]]
 | 66=>[[],[],[],[],[],[0,4,5,6,7,8],[0,4,5,6,7,8,22],[0,4,5,6,7,8,22,24],[],[],[],[4,5,6,7],[],[],[],[4,5,6,7,9],[],[],[],[4,5,6,7],[],[],[4,5,6,7,10],[],[],[],[],[4,5],[]]
 | 67=>[[],[],[],[],[],[2,4,5,21],[2,4,5,21,24],[],[2,4,5],[],[],[],[2,4,5,6,7],[],[],[],[2,4,5,6,7],[2,4,5,6],[],[],[],[],[],[],[],[2,5,8,9,10],[2,5,8,10,82],[2,5,8,10,82,84],[2,5,8,10,82,84,88],[2,5,8,10,82,89],[],[],[],[],[2,8,10],[]]
 | 68=>[[],[],[],[2,3,4],[],[],[],[2,4],[]]
 | 69=>[[],[],[],[],[2,3,4,5,6,7,8],[],[],[],[],[],[2,3,4,5,6,7,8,9,10],[],[],[],[],[2,3,4,5,6,7,8,9],[],[2,3,4,5,6,7,8],[2,3,4,5,6,7],[],[3,4,5,12,13,78],[3,4,5,12,13,78,82],[],[],[],[]]
 | 70=>[[],[],[],[],[],[],[],[]]
 | 71=>[[],[],[],[],[2,3,4,5,6],[],[],[],[],[],[2,3,4,5,6,7,8],[2,3,4,5,6,7,8,31],[2,3,4,5,6,7,8,31,33],[],[],[],[],[2,3,4,5,6,8,9],[2,3,4,5,6,7,8],[2,3,4,5,6],[2,3,4,5],[]]
 | 72=>[[],[]]
 | 73=>[[],[],[],[],[0,3,18,19],[],[],[],[],[],[],[0,3,4,18,19,27,28,29],[],[],[],[],[0,3,4,18,19,27,28,29],[0,3,18,19],[0,3],[],[],[],[0,3,7,8],[],[],[],[],[],[0,3,7,8,9,54],[],[],[],[0,3,7,8,9,10,54,64],[0,3,7,8,9,10,54,64,67],[],[],[],[],[0,3,7,8,9,11,12,13,54,89],[0,3,7,8,9,11,12,13,54,89,92],[],[],[0,3,7,8,9],[7],[]]
 | 74=>[[],[],[],[],[0,3,5],[],[],[],[],[0,3,5],[3],[]]
 | 75=>[[],[]]
 | 76=>[[],[],[],[],[0,5,9,10,11],[],[],[],[],[5],[]]
 | 77=>[[],[]]
 | 78=>[[],[],[],[],[4,9,10,11],[],[],[],[],[],[],[],[],[4],[]]
 | 79=>[[],[],[],[],[0,1,5,6],[],[],[],[0,1,5,6],[5],[]]
 | 80=>[[],[],[],[],[4,10,11,12],[],[],[],[],[],[],[],[],[4],[]]
 | 81=>[[],[]]
 | 82=>[[],[]]
 | 83=>[[],[1,6],[6,9],[]]
 | 84=>[[],[1,2,12],[12,19],[]]
 | 85=>[[],[],[],[],[4,5,12,13,14],[],[],[],[],[4,5],[]]
 | 86=>[[],[]]
 | 87=>[[],[2,3,4,7],[2,3,4,7,9],[],[],[],[]]
 | 88=>[[],[2,3,4,7],[2,3,4,7,9],[],[],[],[]]
 | 89=>[[],[],[],[],[],[],[0,3],[],[],[],[],[],[3,4,5,6],[3,4,5,6,20],[3,4,5,6,20,24],[3,4,5,6,20,24,26],[3,4,5,6,20,27],[],[],[],[],[3,4],[3],[],[]]
 | 90=>[[],[1,8],[8,14],[]]
 | 91=>[[],[],[],[0,1,5],[0,1,5,10],[0,1,5,10,14],[],[],[],[],[],[0,1],[]]
 | 92=>[[],[]]
 | 93=>[[],[],[],[],[],[],[],[1,3,4],[],[],[],[],[],[3],[],[3],[],[],[3],[]]
 | 94=>[[],[],[]]
 | 95=>[[],[1,2,6],[1,2,6,10],[],[]]
 | 96=>[[],[]]
 | 97=>[[],[],[],[],[],[],[],[],[],[0,1,2,3,8,9,27,28,29],[],[],[],[],[],[],[0,1,2,3,8,9,12,27,28,29,55],[0,1,2,3,8,9,12,27,28,29,55,58],[],[0,1,2,3,8,9,27,28,29],[0,1,8],[],[]]
 | 98=>[[],[]]
 | 99=>[[],[0,2,11],[0,2,11,14],[0,2,16],[0,2,16,20],[0,2,16,20,23],[0,2,16,24],[],[],[],[],[],[],[0,2,4,5],[],[],[],[],[],[0,2,4,5,6,7],[],[],[0,2,4,5,6,7,46],[0,2,4,5,6,7,46,50],[],[],[],[],[0,2,4,5,6],[0,2,4,5],[2,4],[]]
 | 100=>[[],[],[],[1,2,3],[1,2,3,9],[1,2,3,9,16],[],[],[1,2,3],[],[1,2,3,29],[1,2,29,31],[],[]]
 | 101=>[[],[],[],[],[],[],[],[],[],[0,1,5],[],[],[],[],[],[],[],[],[],[]]
 | 102=>[[],[]]
 | 103=>[[],[],[],[],[0,1,5,6,7],[],[],[],[],[0,1,5,7,8],[],[],[0,1,5,6,7,8],[0,1,5,6,7],[5],[]]
 | 104=>[[],[],[],[],[0,1,5,6,7],[0,1,5,6,7,14],[0,1,5,6,7,14,18],[0,1,5,6,7,20],[0,1,5,6,7,20,22],[],[],[],[],[0,1,5,7,8],[],[0,1,5,7,8],[0,1,5,6,7],[5],[]]
 | 105=>[[],[],[],[0,2,3],[]]
 | 106=>[[],[],[2,3,4],[],[],[],[],[],[],[]]
 | 107=>[[],[]]
 | 108=>[[],[],[],[],[],[],[],[2,6,8,9,10,11,38],[2,6,8,9,10,11,38,42],[2,6,8,9,10,11,12],[2,6,8,9,11,12,46],[2,6,8,9,11,46,48],[2,6,8,9,11,50],[2,6,8,9,11,50,52],[2,6,8,9,11,50,52,55],[2,6,8,9,11,50,56],[],[],[],[],[]]
 | 109=>[[],[],[],[],[],[],[]]
 | 110=>[[],[],[],[0,1,7,8],[],[],[],[],[],[],[],[]]
 | 111=>[[],[]]
 | 112=>[[],[]]
 | 113=>[[],[],[],[],[],[],[]]
 | 114=>[[],[],[],[],[],[0,1,6,7,8],[],[],[],[],[6,7],[]]
 | 115=>[[],[],[0,2,3],[],[],[]]
 | 116=>[[],[]]
 | 117=>[[],[1,4,6],[1,4,6,9],[]]
 | 118=>[[],[],[0],[0,6],[0,6,13],[],[],[0],[]]
 | 119=>[[],[]]
 | 120=>[[],[],[],[4,5,6],[],[],[],[4,5],[]]
 | 121=>[[],[],[],[2,3,4,5,8,9,32],[3,4,5,8,9,32,37],[],[4,5,8,9],[]]
 | 122=>[[],[],[],[],[1,5,18,19,20],[],[],[],[],[],[],[1,5,6,7,8,18,19,20,25,26,27],[],[],[],[],[],[1,5,6,8,18,19,20],[1,5,18,19,20],[5],[]]
 | 123=>[[],[]]
 | 124=>[[],[]]
 | 125=>[[],[],[],[0,11,12],[],[],[],[0,4,11,12,19],[0,11,12,19,23],[],[],[],[0],[0,28],[0,28,32],[0,28,32,35],[0,28,36],[0,38],[0,38,41],[],[],[],[],[],[0,5],[],[],[],[],[],[],[0,5,6,7,8,50,51],[],[],[],[],[0,5,6,7,8],[],[5],[]]
 | 126=>[[],[],[],[],[],[],[],[],[],[0,1,5],[],[],[],[],[],[],[],[],[],[]]
 | 127=>[[],[]]
 | 128=>[[],[],[0,1],[],[],[],[],[0,1,5,6,21,22],[],[],[],[],[],[0,1,5,6,7,8,21,22],[0,1,5,6,21,22],[0,5,6],[],[]]
 | 129=>[[],[],[],[],[],[0,1,5,6,13,14],[],[],[],[],[],[0,1,5,6,7,8,13,14],[0,1,5,6,13,14],[5],[]]
 | 130=>[[],[],[],[],[],[],[],[],[],[],[],[],[],[],[8,9,10,11,12,13],[],[],[],[8,10,11,12],[]]
 | 131=>[[],[],[],[],[],[]]
 | 132=>[[],[],[],[],[]]
 | 133=>[[],[],[],[]]
 | 134=>[[],[],[]]
 | 135=>[[],[]]
 | 136=>[[],[],[],[],[1,5,13,14,15],[],[],[],[],[],[],[5],[]]
 | 137=>[[],[],[],[],[],[0,1,5,7,8],[],[],[],[],[],[0,1,5,7],[],[],[],[0,1,5,7,9,10,83,84],[],[],[],[],[],[],[0,1,5,7,9,10],[],[],[],[],[],[],[0,1,5,7,13,132,133],[],[],[],[],[0,5,7,13],[7],[]]
 | 138=>[[],[],[],[],[0,1,5,12,13],[],[],[],[],[],[0,1,5,6,7,12,13],[0,1,5,12,13],[5],[]]
 | 139=>[[],[],[0,1,4,5,12,19,36,107,132],[0,1,4,5,12,19,22,36,107,132],[],[],[],[],[],[],[],[],[],[],[],[],[],[],[],[0,1,5,6,7,8,9,10,12,107,132],[],[],[],[],[],[],[],[0,1,5,6,7,8,9,10,12,107,132],[0,1,5,6,7,8,9,10,12,84,107,132],[0,1,5,6,7,8,9,10,12,84,92,107,132],[],[],[],[],[],[],[],[],[],[],[],[],[],[],[],[],[],[],[]]
 | 140=>[[],[0,1,10],[10,16],[]]
 | 141=>[[],[],[],[0,2],[],[],[0,2],[]]
 | 142=>[[],[]]
 | 144=>[[],[]]
 | 145=>[[],[],[],[],[],[],[0,1,5,6,7,8,9],[],[],[],[0,1,5,6,7,8],[0,1,5,6,7,8,33],[0,1,5,6,7,8,33,38],[],[],[],[],[],[0,1,5,6,7,8,10],[],[],[],[],[],[],[0,1,5,6,7,8,10,68],[0,1,5,6,7,8,10,68,76],[],[],[],[]]
 | 147=>[[],[],[],[],[0,4,5],[],[],[],[0,4],[],[],[],[4,6,7,8],[],[],[],[4,6,7,8],[4,6,7,8],[4,6],[]]
 | _=>[]
end
end Go.Proofs.YtelmdbpaoifmoaaGreat
namespace Go.Sim
section
noncomputable def H6 (P:Program) (H:FuncId→Hints) (lf:Nat) (call:kR):kR:=
 fun t args h=>
  match t with
  | .func F=>
   match bz P F (H F) with
   | some (N,ic,rs)=>
    if args.length≤N then
     match lF P (call) lf ic (bt args) h with
     | some (.normal,f,h')=>match oX rs f h' with | some vs=>some (pack vs,h') | none=>none
     | some (.ret,f,h')=>match oX rs f h' with | some vs=>some (pack vs,h') | none=>none
     | _=>none
    else none
   | none=>none
  | .yield i=>
   match h[i]? with
   | some (.loop c ls vs)=>
    match fy P c.N c.j9 [],fy P c.N c.body [] with
    | some (ia,_),some (ib,_)=>
     if args.length=c.ps.size∧c.ps.all (·<c.N)=true∧iz c.j9=true∧iz c.body=true then
      match lF P (call) lf ia (B5 c.ps.toList args (kj ls vs)) (h.set i .dead) with
      | some (.normal,f1,h1)=>
       if I5 h1 i=true then
        match lF P (call) lf ib f1 h1 with
        | some (.normal,_,h2)=>if I5 h2 i=true then some (.bool true,h2.set i (.loop c ls vs)) else none
        | _=>none
       else none
      | _=>none
     else none
    | _,_=>none
   | _=>none
  | _=>none
theorem auT {P:Program} {H:FuncId→Hints} {lf:Nat} {call:kR} (HC:sg P call):sg P (H6 P H lf call):=by
 constructor
 ·intro F args h v h' he
  simp only [H6] at he
  split at he
  ·rename_i N ic rs hc
   split at he
   ·rename_i ha
    have key:∀{e f h1 vs},(e=Exit.normal∨e=Exit.ret)→lF P (call) lf ic (bt args) h=some (e,f,h1)→oX rs f h1=some vs→wz P F args h (pack vs) h1:=by
     intro e f h1 vs Qp DJ hr
     obtain ⟨u,g,q1,rfl,rfl⟩:=aen hc ha (K:=fun u g=>u=pack vs∧g=h1) (PC HC DJ (by
      rcases Qp with rfl | rfl
      ·exact Ku hr ⟨rfl,rfl⟩
      ·exact Ku hr ⟨rfl,rfl⟩))
     exact q1
    split at he
    ·rename_i f h1 DJ
     split at he
     ·rename_i vs hr
      simp at he
      obtain ⟨rfl,rfl⟩:=he
      exact key (.inl rfl) DJ hr
     ·cases he
    ·rename_i f h1 DJ
     split at he
     ·rename_i vs hr
      simp at he
      obtain ⟨rfl,rfl⟩:=he
      exact key (.inr rfl) DJ hr
     ·cases he
    ·cases he
   ·cases he
  ·cases he
 ·intro i args h v h' he
  simp only [H6] at he
  split at he
  ·rename_i c ls vs hi
   split at he
   ·rename_i ia _ ib _ ha hb
    split at he
    ·rename_i Qj
     obtain ⟨c1,c2,c3,c4⟩:=Qj
     split at he
     ·rename_i f1 h1 e1
      split at he
      ·rename_i d1
       split at he
       ·rename_i f2 h2 e2
        split at he
        ·rename_i d2
         simp at he
         obtain ⟨rfl,rfl⟩:=he
         obtain ⟨u,g,q1,rfl,rfl⟩:=aEL (K:=fun u g=>u=.bool true∧g=h2.set i (.loop c ls vs)) hi c1 c2 ha hb c3 c4
          (PC HC e1 ⟨rfl,aeD d1,PC HC e2 ⟨rfl,aeD d2,rfl,rfl⟩⟩)
         exact q1
        ·cases he
       ·cases he
      ·cases he
     ·cases he
    ·cases he
   ·cases he
  ·cases he
end
end Go.Sim
namespace Go.Proofs.YtelmdbpaoifmoaaGreat
open Go.Sim
section
variable (P : Program) (K : VK)
noncomputable section
variable (p0 : Value) (h : ae)
def agU:=bz prog 61 [[],[]]
@[irreducible] def c61:=bI agU
theorem k61:agU=some (10,c61,[.tmp 2]):=by kernel_rfl
def Nv (_:Program) (K:VK) (p0:Value) (h:ae):Prop:=
 OP (xt p0) fun x4=>
 OP (aL 0 x4) fun x5=>
 OP (af false 1 h x5) fun x6=>
 OP (bj x6) fun x7=>
 OP (ai .shl (.int .u16 (1)) x7) fun x8=>
 OP (ai .sub x8 (.int .u16 (1))) fun x9=>
 K x9 h
theorem e61:ak P c61 (aS [.tmp 2] K) (bt [p0]) h=Nv P K p0 h:=by kernel_rfl
theorem f61 {K:VK} {p0:Value} {h:ae} (H:Nv prog K p0 h):aj prog 61 [p0] h K:=
 bJ k61 (bH rfl) ((e61 prog K p0 h).mpr H)
end
noncomputable section
variable (p0 s1 x5 x9 aM au : Value) (L1 : LQ) (xs : List Value) (h : ae)
def agV:=bz prog 62 [[],[],[],[0,9,10],[5,11],[],[],[],[],[5],[]]
@[irreducible] def G0:=bI agV
@[irreducible] def arV:=G0.r.r.l.r.l.l
@[irreducible] def aan:=G0.r.r.r
@[irreducible] def arU:=aan.l
theorem k62:agV=some (27,G0,[.tmp 4]):=by kernel_rfl
def L5 (_P:Program) (K:VK):ar:=aS [.tmp 4] K
def aoC:ar:=aF (ak P aan (L5 P K)) (L5 P K)
def aoD:ar:=bN 0 (aoC P K)
def aoE:ar:=aF (fun f' aT=>(([0,9,10]:List Nat).map f':List Value)=[p0,x9,aM]∧L1 (([5,11]:List Nat).map f') aT) (aoD P K)
def aiY:Prop:=ay (ak P arV (aoE P K p0 x9 aM L1)) ([0,9,10]++[5,11]) ([p0,x9,aM]++xs) h
def aiX:Prop:=ay (ak P arU (L5 P K)) [5] [x5] h
theorem aA6 (p0 x9 aM:Value) (L1:LQ) (x5 au:Value) (h:ae):aiY P K p0 x9 aM L1 [x5,au] h=
 (OP (ai .lss au aM) fun aB=>
 aQ aB
 (OP (bc 1 x9 au) fun aA=>
 OP (af false 1 h aA) fun aH=>
 OP (xt p0) fun bM=>
 OP (aL 0 bM) fun aP=>
 OP (af false 1 h aP) fun aO=>
 OP (bc 2 aO aH) fun aY=>
 OP (aL 0 aY) fun bE=>
 OP (af false 1 h bE) fun ck=>
 OP (ai .add x5 ck) fun bu=>
 OP (ai .add au (.int .i64 (1))) fun bY=>
 ([p0,x9,aM]:List Value)=[p0,x9,aM]∧L1 [bu,bY] h)
 (aiX P K x5 h)):=az (by kernel_rfl)
theorem aA5:aiX P K x5 h=
 (K x5 h):=az (by kernel_rfl)
def X3:Prop:=
 aj P 74 [s1] h fun x9 z1=>
 OP (bj x9) fun aM=>
 cM [(.int .i64 (0)),(.int .i64 (0))] z1 fun L1 xs hx=>
 aiY P K p0 x9 aM L1 xs hx
theorem e62:ak P G0 (aS [.tmp 4] K) (bt [p0,s1]) h=X3 P K p0 s1 h:=by kernel_rfl
theorem f62 {K:VK} {p0 s1:Value} {h:ae} (H:X3 prog K p0 s1 h):aj prog 62 [p0,s1] h K:=
 bJ k62 (bH rfl) ((e62 prog K p0 s1 h).mpr H)
end
noncomputable section
variable (s0 x3 x5 : Value) (L1 : LQ) (xs : List Value) (h : ae)
def ag6:=bz prog 74 [[],[],[],[0],[3,5],[],[],[],[],[0,3,5],[3],[]]
@[irreducible] def Hg:=bI ag6
@[irreducible] def aa8:=Hg.r.r.l.r.l.l
@[irreducible] def aa7:=Hg.r.r.r
@[irreducible] def asH:=aa8.r.r.r.l
@[irreducible] def asI:=aa7.l
theorem k74:ag6=some (17,Hg,[.tmp 2]):=by kernel_rfl
def Me (_P:Program) (K:VK):ar:=aS [.tmp 2] K
def apn:ar:=aF (ak P aa7 (Me P K)) (Me P K)
def apo:ar:=bN 0 (apn P K)
def XC:ar:=aF (fun f' aT=>(([0]:List Nat).map f':List Value)=[s0]∧L1 (([3,5]:List Nat).map f') aT) (apo P K)
def ajH:Prop:=ay (ak P aa8 (XC P K s0 L1)) ([0]++[3,5]) ([s0]++xs) h
def TJ:Prop:=ay (ak P asH (XC P K s0 L1)) [0,3,5] [s0,x3,x5] h
def ajG:Prop:=ay (ak P asI (Me P K)) [3] [x3] h
theorem ala:TJ P K s0 x3 x5 L1 h=
 (OP (ai .add x5 (.int .i64 (1))) fun ba=>
 ([s0]:List Value)=[s0]∧L1 [x3,ba] h):=az (by kernel_rfl)
theorem aB1 (s0:Value) (L1:LQ) (x3 x5:Value) (h:ae):ajH P K s0 L1 [x3,x5] h=
 (OP (ai .lss x5 (.int .i64 (10))) fun x6=>
 aQ x6
 (aj P 98 [s0,x5] h fun aM z1=>
 aQ aM
 (OH (dH 3 1 [(.int .i64 (0))] z1 [(0,1,x5)]) fun aA z2=>
 OH (dT 3 1 8 z2 x3 aA) fun aH z3=>
 TJ P K s0 aH x5 L1 z3)
 (TJ P K s0 x3 x5 L1 z1))
 (ajG P K x3 h)):=az (by kernel_rfl)
theorem aB0:ajG P K x3 h=
 (K x3 h):=az (by kernel_rfl)
def NH:Prop:=
 cM [(.slice none 0 0),(.int .i64 (0))] h fun L1 xs hx=>
 ajH P K s0 L1 xs hx
theorem e74:ak P Hg (aS [.tmp 2] K) (bt [s0]) h=NH P K s0 h:=by kernel_rfl
theorem f74 {K:VK} {s0:Value} {h:ae} (H:NH prog K s0 h):aj prog 74 [s0] h K:=
 bJ k74 (bH rfl) ((e74 prog K s0 h).mpr H)
end
noncomputable section
variable (p0 s1 x5 x9 aM au : Value) (L1 : LQ) (xs : List Value) (h : ae)
def ag8:=bz prog 76 [[],[],[],[0,9,10],[5,11],[],[],[],[],[5],[]]
@[irreducible] def Hi:=bI ag8
@[irreducible] def asK:=Hi.r.r.l.r.l.l
@[irreducible] def aba:=Hi.r.r.r
@[irreducible] def asJ:=aba.l
theorem k76:ag8=some (27,Hi,[.tmp 4]):=by kernel_rfl
def Mf (_P:Program) (K:VK):ar:=aS [.tmp 4] K
def apq:ar:=aF (ak P aba (Mf P K)) (Mf P K)
def apr:ar:=bN 0 (apq P K)
def aps:ar:=aF (fun f' aT=>(([0,9,10]:List Nat).map f':List Value)=[p0,x9,aM]∧L1 (([5,11]:List Nat).map f') aT) (apr P K)
def ajJ:Prop:=ay (ak P asK (aps P K p0 x9 aM L1)) ([0,9,10]++[5,11]) ([p0,x9,aM]++xs) h
def ajI:Prop:=ay (ak P asJ (Mf P K)) [5] [x5] h
theorem aB3 (p0 x9 aM:Value) (L1:LQ) (x5 au:Value) (h:ae):ajJ P K p0 x9 aM L1 [x5,au] h=
 (OP (ai .lss au aM) fun aB=>
 aQ aB
 (OP (bc 1 x9 au) fun aA=>
 OP (af false 1 h aA) fun aH=>
 OP (xt p0) fun bM=>
 OP (aL 0 bM) fun aP=>
 OP (af false 1 h aP) fun aO=>
 OP (bc 2 aO aH) fun aY=>
 OP (aL 1 aY) fun bE=>
 OP (af false 1 h bE) fun ck=>
 OP (ai .add x5 ck) fun bu=>
 OP (ai .add au (.int .i64 (1))) fun bY=>
 ([p0,x9,aM]:List Value)=[p0,x9,aM]∧L1 [bu,bY] h)
 (ajI P K x5 h)):=az (by kernel_rfl)
theorem aB2:ajI P K x5 h=
 (K x5 h):=az (by kernel_rfl)
def X7:Prop:=
 aj P 74 [s1] h fun x9 z1=>
 OP (bj x9) fun aM=>
 cM [(.int .i64 (0)),(.int .i64 (0))] z1 fun L1 xs hx=>
 ajJ P K p0 x9 aM L1 xs hx
theorem e76:ak P Hi (aS [.tmp 4] K) (bt [p0,s1]) h=X7 P K p0 s1 h:=by kernel_rfl
theorem f76 {K:VK} {p0 s1:Value} {h:ae} (H:X7 prog K p0 s1 h):aj prog 76 [p0,s1] h K:=
 bJ k76 (bH rfl) ((e76 prog K p0 s1 h).mpr H)
end
noncomputable section
variable (s0 i1 : Value) (h : ae)
def ahq:=bz prog 98 [[],[]]
@[irreducible] def c98:=bI ahq
theorem k98:ahq=some (10,c98,[.tmp 4]):=by kernel_rfl
def N0 (_:Program) (K:VK) (s0 i1:Value) (h:ae):Prop:=
 OP (ai .shr s0 i1) fun x7=>
 OP (ai .and x7 (.int .u16 (1))) fun x8=>
 OP (ai .eql x8 (.int .u16 (1))) fun x9=>
 K x9 h
theorem e98:ak P c98 (aS [.tmp 4] K) (bt [s0,i1]) h=N0 P K s0 i1 h:=by kernel_rfl
theorem f98 {K:VK} {s0 i1:Value} {h:ae} (H:N0 prog K s0 i1 h):aj prog 98 [s0,i1] h K:=
 bJ k98 (bH rfl) ((e98 prog K s0 i1 h).mpr H)
end
end
end Go.Proofs.YtelmdbpaoifmoaaGreat
namespace Go.Sim
section
def val (B:Nat):List Nat→Nat
 | []=>0
 | d::ds=>d+B*val B ds
def cd (B:Nat) (xs:List Nat):Prop:=∀x∈xs,x<B
def dw (B:Nat) (xs:List Nat):Prop:=cd B xs∧xs.getLast?≠some 0
theorem nJ (B:Nat):∀xs ys:List Nat,val B (xs++ys)=val B xs+B^xs.length*val B ys
 | [],ys=>by simp [val]
 | x::xs,ys=>by
  simp only [List.cons_append,val,nJ B xs ys,length_cons,Nat.pow_succ]
  grind
theorem xI (B:Nat):∀n,val B (List.replicate n 0)=0
 | 0=>rfl
 | n+1=>by rw [List.replicate_succ];simp [val,xI B n]
theorem tk (B:Nat):∀(xs:List Nat) (i d:Nat) (hi:i<xs.length),val B (xs.set i d)+B^i*xs[i]=val B xs+B^i*d
 | [],i,d,hi=>by simp at hi
 | x::xs,0,d,hi=>by simp [val];omega
 | x::xs,i+1,d,hi=>by
  have ih:=tk B xs i d (by simpa using hi)
  simp only [List.set_cons_succ,val,List.getElem_cons_succ,Nat.pow_succ]
  grind
theorem iX (B:Nat) (xs:List Nat) {i:Nat} (hi:i<xs.length):val B (xs.take (i+1))=val B (xs.take i)+B^i*xs[i]:=by
 rw [List.take_succ_eq_append_getElem hi,nJ]
 simp [val,Nat.min_eq_left (Nat.le_of_lt hi)]
theorem cd.mono {B:Nat} {xs ys:List Nat} (h:cd B xs) (hs:∀y∈ys,y∈xs):cd B ys:=fun y hy=>h y (hs y hy)
theorem cd.append {B:Nat} {xs ys:List Nat} (h:cd B xs) (k:cd B ys):cd B (xs++ys):=fun y hy=>(mem_append.1 hy).elim (h y) (k y)
theorem cd.set {B:Nat} {xs:List Nat} (h:cd B xs) {d:Nat} (hd:d<B) (i:Nat):cd B (xs.set i d):=fun y hy=>by
 rcases List.mem_or_eq_of_mem_set hy with h1 | h1
 ·exact h y h1
 ·rw [h1];exact hd
theorem cd.wx {B:Nat} (hB:0<B) (n:Nat):cd B (List.replicate n 0):=fun y hy=>by
 rw [(List.mem_replicate.1 hy).2];exact hB
theorem m9 {B:Nat}:∀{xs:List Nat},cd B xs→val B xs<B^xs.length
 | [],_=>by simp [val]
 | x::xs,h=>by
  have h1:=h x (by simp)
  have ih:=m9 (xs:=xs) fun y hy=>h y (by simp [hy])
  simp only [val,length_cons,Nat.pow_succ]
  have:B*(val B xs+1)≤B*B^xs.length:=Nat.mul_le_mul_left _ ih
  rw [Nat.mul_comm (B^xs.length)]
  grind
theorem dw.cons {B:Nat} {x:Nat} {xs:List Nat} (h:dw B (x::xs)):x<B∧dw B xs∧(xs=[]→x≠0):=by
 refine ⟨h.1 x (by simp),⟨fun y hy=>h.1 y (by simp [hy]),?_⟩,?_⟩
 ·intro hl
  apply h.2
  cases xs with
  | nil=>simp at hl
  | cons y ys=>simpa [List.getLast?_cons_cons] using hl
 ·rintro rfl rfl
  exact h.2 rfl
theorem dw.zero {B:Nat} (hB:0<B):∀{xs:List Nat},dw B xs→val B xs=0→xs=[]
 | [],_,_=>rfl
 | x::xs,h,h0=>by
  obtain ⟨_,h2,h3⟩:=h.cons
  simp only [val] at h0
  have hx:x=0:=by omega
  have hv:B*val B xs=0:=by omega
  have:val B xs=0:=by
   rcases Nat.mul_eq_zero.1 hv with h | h
   ·omega
   ·exact h
  exact absurd hx (h3 (dw.zero hB h2 this))
theorem dw.unique {B:Nat} (hB:0<B):∀{xs ys:List Nat},dw B xs→dw B ys→val B xs=val B ys→xs=ys
 | [],ys,_,hy,h=>(dw.zero hB hy (by simpa [val] using h.symm)).symm
 | x::xs,[],hx,_,h=>dw.zero hB hx (by simpa [val] using h)
 | x::xs,y::ys,hx,hy,h=>by
  obtain ⟨a1,a2,_⟩:=hx.cons
  obtain ⟨b1,b2,_⟩:=hy.cons
  simp only [val] at h
  have e1:x=y:=by
   have:=congrArg (·%B) h
   simpa [Nat.add_mul_mod_self_left,Nat.mod_eq_of_lt a1,Nat.mod_eq_of_lt b1] using this
  subst e1
  have e2:val B xs=val B ys:=Nat.eq_of_mul_eq_mul_left hB (by omega)
  rw [dw.unique hB a2 b2 e2]
theorem dw.low {B:Nat} (hB:0<B):∀{xs:List Nat},dw B xs→xs≠[]→B^(xs.length-1)≤val B xs
 | [x],h,_=>by
  have:=h.cons.2.2 rfl
  simp [val]
  omega
 | x::y::xs,h,_=>by
  have ih:=dw.low hB h.cons.2.1 (by simp)
  simp only [length_cons,Nat.add_sub_cancel] at ih⊢
  rw [show val B (x::y::xs)=x+B*val B (y::xs) from rfl,Nat.pow_succ]
  have:B*B^xs.length≤B*val B (y::xs):=Nat.mul_le_mul_left _ ih
  rw [Nat.mul_comm (B^xs.length)]
  omega
theorem dw.len {B k:Nat} (hB:1<B) {xs:List Nat} (h:dw B xs) (hv:val B xs<B^k):xs.length≤k:=by
 by_cases hx:xs=[]
 ·subst hx;simp
 ·have h1:=dw.low (by omega) h hx
  have h2:B^(xs.length-1)<B^k:=Nat.lt_of_le_of_lt h1 hv
  have:=(Nat.pow_lt_pow_iff_right hB).1 h2
  have:0<xs.length:=List.length_pos_iff.2 hx
  omega
theorem dw.nil (B:Nat):dw B []:=⟨fun x hx=>by simp at hx,by simp⟩
theorem dw.zM {B:Nat} (hB:1<B) {xs ys:List Nat} (hx:dw B xs) (hy:dw B ys) (h:xs.length<ys.length):val B xs<val B ys:=by
 have h1:=m9 hx.1
 have h2:=dw.low (by omega) hy (by rintro rfl;simp at h)
 have h3:B^xs.length≤B^(ys.length-1):=pow_le_pow_right (by omega) (by omega)
 omega
theorem Hv {B:Nat} {xs:List Nat} (h:cd B xs) (hl:∀h0:0<xs.length,xs[xs.length-1]≠0):dw B xs:=by
 refine ⟨h,fun h0=>?_⟩
 rw [List.getLast?_eq_getElem?] at h0
 obtain ⟨h1,h2⟩:=bK h0
 exact hl (by omega) h2
end
section
def SK (k:IntKind):Prop:=k=.u16∨k=.i64
theorem SK.wrap {k:IntKind} (hk:SK k) {n:Int} (h0:0≤n) (h1:n<32768):k.wrap n=n:=by
 rcases hk with rfl | rfl
 ·have e:IntKind.wrap .u16 n=n%65536:=by simp [IntKind.wrap,IntKind.bits,IntKind.signed]
  rw [e];omega
 ·exact wrap64 (by omega) (by omega)
theorem SK.bits {k:IntKind} (hk:SK k):16≤k.bits:=by
 rcases hk with rfl | rfl <;> decide
theorem SK.toNat {k:IntKind} (hk:SK k) {a:Nat} (ha:a<1024):(BitVec.ofInt k.bits (a:Int)).toNat=a:=by
 have h:=hk.bits
 have h2:(2:Nat)^16≤2^k.bits:=pow_le_pow_right (by decide) h
 rw [BitVec.toNat_ofInt]
 have h3:((2^k.bits:Nat):Int)=2^k.bits:=by simp
 rw [Int.emod_eq_of_lt (by omega) (by omega)]
 omega
theorem orK {k:IntKind} (hk:SK k) {a b:Nat} (ha:a<1024) (hb:b<1024):ai .or (.int k (a:Int)) (.int k (b:Int))=some (.int k ((a ||| b:Nat):Int)):=by
 have e:ai .or (.int k (a:Int)) (.int k (b:Int))=some (Value.int k (k.wrap ((BitVec.ofInt k.bits (a:Int) ||| BitVec.ofInt k.bits (b:Int)).toNat:Int))):=by simp [ai,hI]
 rw [e,BitVec.toNat_or,hk.toNat ha,hk.toNat hb]
 have:a ||| b<2^10:=Nat.or_lt_two_pow ha hb
 rw [hk.wrap (by omega) (by omega)]
theorem Yf {k:IntKind} (hk:SK k) {a b:Nat} (ha:a<1024) (hb:b<1024):ai .and (.int k (a:Int)) (.int k (b:Int))=some (.int k ((a &&& b:Nat):Int)):=by
 have e:ai .and (.int k (a:Int)) (.int k (b:Int))=some (Value.int k (k.wrap ((BitVec.ofInt k.bits (a:Int) &&& BitVec.ofInt k.bits (b:Int)).toNat:Int))):=by simp [ai,hI]
 rw [e,BitVec.toNat_and,hk.toNat ha,hk.toNat hb]
 have:a &&& b<2^10:=Nat.and_lt_two_pow _ hb
 rw [hk.wrap (by omega) (by omega)]
def jF (a b:Nat):Bool:=a &&& b==a
theorem aDx {k:IntKind} (hk:SK k) {s a:Nat} (ha:a<16):ai .shr (.int k (s:Int)) (I a)=some (.int k ((s / 2^a:Nat):Int)):=by
 have h:=hk.bits
 simp only [ai,qG]
 rw [if_neg (by omega)]
 have:min ((a:Int).toNat) k.bits=a:=by omega
 rw [this,Int.fdiv_eq_ediv_of_nonneg _ (Int.pow_nonneg (by decide))]
 rfl
theorem aDw {k:IntKind} (hk:SK k) {a:Nat} (ha:a<11):ai .shl (.int k 1) (I a)=some (.int k ((2^a:Nat):Int)):=by
 have h:=hk.bits
 simp only [ai,qG]
 rw [if_neg (by omega)]
 have:min ((a:Int).toNat) k.bits=a:=by omega
 rw [this,Int.one_mul]
 have h2:(2:Nat)^a≤2^10:=pow_le_pow_right (by decide) (by omega)
 have h3:((2:Int)^a)=((2^a:Nat):Int):=by simp
 have hpa:((2^a:Nat):Int)≤((1024:Nat):Int):=Int.ofNat_le.2 h2
 rw [h3,hk.wrap (Int.natCast_nonneg _) (by omega)]
theorem ap1 (z:Nat):z &&& 1=z%2:=Nat.and_one_is_mod z
theorem pa {a b:Nat}:jF a b=true↔∀i,a.testBit i=true→b.testBit i=true:=by
 unfold jF
 rw [beq_iff_eq]
 constructor
 ·intro h i hi
  have:=congrArg (fun n=>n.testBit i) h
  simp only [testBit_and] at this
  rw [hi] at this
  simpa using this
 ·intro h
  apply eq_of_testBit_eq
  intro i
  rw [testBit_and]
  cases hi:a.testBit i with
  | false=>rfl
  | true=>rw [h i hi];rfl
theorem th (d i j:Nat):(d ||| 2^i).testBit j=(d.testBit j||decide (i=j)):=by
 rw [testBit_or,Nat.testBit_two_pow]
theorem BW {d i n:Nat} (hd:d<2^n) (hi:i<n):d ||| 2^i<2^n:=Nat.or_lt_two_pow hd (Nat.pow_lt_pow_right (by decide) hi)
end
section
def jr {α:Type}:List α→(α→Int)→Int
 | [],_=>0
 | x::l,f=>f x+jr l f
section
variable {α β : Type}
theorem Cf (f:α→Int):∀l m:List α,jr (l++m) f=jr l f+jr m f
 | [],m=>by simp [jr]
 | x::l,m=>by simp only [List.cons_append,jr,Cf f l m];omega
end
section
variable (com : Nat → Nat → Bool)
variable {com}
end
end
end Go.Sim
namespace Go.Proofs.YtelmdbpaoifmoaaGreat
open Go.Sim
section
abbrev U (s:Nat):Value:=.int .u16 (s:Int)
theorem um:SK .u16:=.inl rfl
def PL (h:ae) (p:Value) (js:List (Int×Int)) (bs:List Nat):Prop:=∃i vj vb,p=pt i 0∧aR h i=some [vj,vb]∧PS h vj js∧NS h vb .u16 (bs.map fun b:Nat=>(b:Int))
theorem PL.mono {h h':ae} {p:Value} {js:List (Int×Int)} {bs:List Nat} (x:EX h h') (q:PL h p js bs):PL h' p js bs:=
 let ⟨i,vj,vb,a,b,c,d⟩:=q;⟨i,vj,vb,a,x.cells b,c.mono x,d.mono x⟩
def Gb (n:Nat):Nat:=2^n-1
theorem C98 {s i:Nat} {h:ae} {K:Value→ae→Prop} (hi:i<16) (hs:s<1024) (hk:K (B (s.testBit i)) h):aj prog 98 [U s,I i] h K:=by
 refine f98 ?_
 have hd:s / 2^i<1024:=Nat.lt_of_le_of_lt (Nat.div_le_self _ _) hs
 have ha:=Yf um hd (show 1<1024 by decide)
 have ke:ai .and (.int .u16 ((s / 2^i:Nat):Int)) (.int .u16 1)=some (.int .u16 ((s / 2^i &&& 1:Nat):Int)):=ha
 simp only [N0,aDx um hi,ah,ke,jA]
 have e:decide (((s / 2^i &&& 1:Nat):Int)=1)=s.testBit i:=by
  rw [Nat.testBit_eq_decide_div_mod_eq,ap1]
  by_cases h1:s / 2^i%2=1
  ·rw [a9 h1,a9 (by omega)]
  ·rw [aU h1,aU (by omega)]
 rw [e]
 exact hk
theorem Wj {p:Value} {js:List (Int×Int)} {bs:List Nat} {h:ae} {K:Value→ae→Prop} (hp:PL h p js bs) (hl:js.length≤10) (hk:K (U (Gb js.length)) h):aj prog 61 [p] h K:=by
 obtain ⟨i,vj,vb,rfl,hc,hj,hb⟩:=hp
 refine f61 ?_
 have ld:af false 1 h (pt i 0)=some vj:=by simp [af,hc,cf]
 have e1:(1:Nat)≤2^js.length:=Nat.pow_pos (by decide)
 have e2:(2:Nat)^js.length≤2^10:=pow_le_pow_right (by decide) hl
 simp only [Nv,Jt,ah,cn,Nat.add_zero,ld,hj.len,aDw um (show js.length<11 by omega),gq]
 rw [um.wrap (by omega) (by omega)]
 have:((2^js.length:Nat):Int)-1=((Gb js.length:Nat):Int):=by unfold Gb;omega
 rw [this]
 exact hk
theorem NS.avj {h:ae} {v:Value} {bs:List Nat} (p:NS h v .u16 (bs.map fun b:Nat=>(b:Int))) {i:Nat} (hi:i<bs.length):∃b o,bc 1 v (I i)=some (pt b o)∧af false 1 h (pt b o)=some (U (bs.getD i 0)):=by
 obtain ⟨b,o,g1,g2⟩:=p.get i (by simpa using hi)
 refine ⟨b,o,g1,?_⟩
 rw [g2]
 simp [getD_eq_getElem?_getD,hi]
def cN (s:Nat):Nat→List Nat
 | 0=>[]
 | i+1=>if s.testBit i=true then cN s i++[i] else cN s i
theorem Eo (s:Nat):∀n,(cN s n).length≤n
 | 0=>le_refl _
 | n+1=>by have:=Eo s n;simp only [cN];split <;> simp <;> omega
theorem BO (s:Nat):∀(n i:Nat),i∈cN s n→i<n∧s.testBit i=true
 | 0,i,h=>by simp [cN] at h
 | n+1,i,h=>by
  simp only [cN] at h
  split at h
  ·rename_i ht
   rcases mem_append.1 h with h | h
   ·have:=BO s n i h;exact ⟨by omega,this.2⟩
   ·have:i=n:=by simpa using h
    subst this;exact ⟨by omega,ht⟩
  ·have:=BO s n i h;exact ⟨by omega,this.2⟩
theorem Lr {s:Nat} {h:ae} {K:Value→ae→Prop} (hs:s<1024) (hk:∀v h',EX h h'→NS h' v .i64 ((cN s 10).map fun i:Nat=>(i:Int))→K v h'):aj prog 74 [U s] h K:=by
 refine f74 ?_
 unfold NH
 refine dL (σ:=Nat×Value×ae) (fun p=>[p.2.1,I p.1]) (fun p=>p.2.2) (fun p=>p.1≤10∧EX h p.2.2∧fE h.length p.2.2 3 p.2.1 ((cN s p.1).map fun i:Nat=>I i)) (fun p=>10-p.1)
  (0,.slice none 0 0,h) rfl rfl ⟨zero_le _,EX.refl _,.inl ⟨rfl,rfl⟩⟩ ?_
 rintro ⟨i,v,g⟩ ⟨hi,xg,iT⟩ L hL
 simp only at hi xg iT hL⊢
 have QK:=Eo s i
 rw [aB1]
 simp only [cW,ah,bX]
 refine ⟨fun aD=>?_,fun cK=>?_⟩
 ·refine C98 (by omega) hs ?_
  refine At (fun ht=>?_) fun ht=>?_
  ·refine Gd iT xg (by simp;omega) (by simp [maxLen];omega) rfl rfl ?_
   intro v' g' xg' dO
   simp only [ala,cQ,ah,fA i (by omega),true_and]
   refine hL (i+1,v',g') ⟨by show i+1≤10;omega,xg',?_⟩ (by show 10-(i+1)<10-i;omega)
   show fE h.length g' 3 v' ((cN s (i+1)).map fun i:Nat=>I i)
   simp only [cN,ht,if_true,List.map_append,List.map_cons,List.map_nil]
   exact dO
  ·simp only [ala,cQ,ah,fA i (by omega),true_and]
   refine hL (i+1,v,g) ⟨by show i+1≤10;omega,xg,?_⟩ (by show 10-(i+1)<10-i;omega)
   show fE h.length g 3 v ((cN s (i+1)).map fun i:Nat=>I i)
   simp only [cN,ht,false_eq_true,if_false]
   exact iT
 ·have fY:i=10:=by omega
  subst fY
  rw [aB0]
  refine hk v g xg ?_
  rcases iT with ⟨h1,h2⟩ | ⟨a,_,h2,h3⟩
  ·have:cN s 10=[]:=by simpa using h2
   rw [this,h1]
   exact NS.nil g .i64
  ·rw [h2,length_map]
   have:=NS.sl (h:=g) (e:=3) (i:=a) (k:=.i64) (ns:=(cN s 10).map fun i:Nat=>(i:Int)) (.inr (by simp [aR,h3])) (by simp [maxLen];omega)
   rw [length_map] at this
   exact this
def wg (js:List (Int×Int)) (l:List Nat):Int:=jr l fun i=>(js.getD i (0,0)).1
theorem alS {α:Type} (f:α→Int) (l:List α) {j:Nat} (hj:j<l.length):jr (l.take (j+1)) f=jr (l.take j) f+f l[j]:=by
 rw [List.take_succ_eq_append_getElem hj,Cf]
 simp [jr]
theorem PS.getD {h:ae} {v:Value} {js:List (Int×Int)} (p:PS h v js) {i:Nat} (hi:i<js.length):∃b o,bc 2 v (I i)=some (pt b o)∧af false 1 h (pt b o)=some (I (js.getD i (0,0)).1)∧af false 1 h (pt b (o+1))=some (I (js.getD i (0,0)).2)∧
  af true 2 h (pt b o)=some (.agg #[I (js.getD i (0,0)).1,I (js.getD i (0,0)).2]):=by
 obtain ⟨b,o,g1,g2,g3,g4⟩:=p.get i hi
 have e:js.getD i (0,0)=js[i]:=by simp [getD_eq_getElem?_getD,hi]
 rw [e]
 exact ⟨b,o,g1,g2,g3,g4⟩
def pV (js:List (Int×Int)):Prop:=∀j∈js,(1≤j.1∧j.1≤50)∧0≤j.2∧j.2≤50
theorem pV.getD {js:List (Int×Int)} (h:pV js) {i:Nat} (hi:i<js.length):(1≤(js.getD i (0,0)).1∧(js.getD i (0,0)).1≤50)∧0≤(js.getD i (0,0)).2∧(js.getD i (0,0)).2≤50:=by
 have e:js.getD i (0,0)=js[i]:=by simp [getD_eq_getElem?_getD,hi]
 rw [e];exact h _ (getElem_mem hi)
theorem alQ {js:List (Int×Int)} (h:pV js):∀l:List Nat,(∀i∈l,i<js.length)→0≤wg js l∧wg js l≤50*l.length
 | [],_=>by simp [wg,jr]
 | i::l,hl=>by
  have ih:=alQ h l fun x hx=>hl x (by simp [hx])
  have:=h.getD (hl i (by simp))
  unfold wg at ih⊢
  simp only [jr,length_cons]
  omega
theorem Wk {p:Value} {js:List (Int×Int)} {bs:List Nat} {s:Nat} {h:ae} {K:Value→ae→Prop} (hp:PL h p js bs) (hj:pV js) (hl:js.length≤10) (hs:s<2^js.length) (hk:∀h',EX h h'→K (I (wg js (cN s 10))) h'):aj prog 62 [p,U s] h K:=by
 have avr:(2:Nat)^js.length≤2^10:=pow_le_pow_right (by decide) hl
 refine f62 (Lr (by omega) ?_)
 intro v g xg hn
 obtain ⟨a,vj,vb,rfl,hc,QF,DH⟩:=hp.mono xg
 have aD:∀i∈cN s 10,i<js.length:=by
  intro i hi
  have h1:=(BO s 10 i hi).2
  apply byContradiction
  intro cK
  have:s<2^i:=lt_of_lt_of_le hs (pow_le_pow_right (by decide) (by omega))
  rw [Nat.testBit_lt_two_pow this] at h1
  cases h1
 have QK:=Eo s 10
 have zH:bj v=some (I (cN s 10).length):=by have:=hn.len;rwa [length_map] at this
 simp only [zH,ah]
 refine dL (σ:=Nat) (fun i=>[I (wg js ((cN s 10).take i)),I i]) (fun _=>g) (fun i=>i≤(cN s 10).length) (fun i=>(cN s 10).length-i) 0 rfl rfl (zero_le _) ?_
 intro i hi L hL
 rw [aA6]
 simp only [cW,ah,bX]
 refine ⟨fun mm=>?_,fun cK=>?_⟩
 ·have bC:i<(cN s 10).length:=by omega
  obtain ⟨b,o,g1,g2⟩:=hn.get i (by simpa using bC)
  have e:((cN s 10).map fun i:Nat=>(i:Int))[i]'(by simpa using bC)=((cN s 10)[i]:Int):=by simp
  rw [e] at g2
  have hm:=aD _ (getElem_mem bC)
  obtain ⟨c,q,r1,r2,r3,r4⟩:=PS.getD QF hm
  have ld:af false 1 g (pt a 0)=some vj:=by simp [af,hc,cf]
  have bD:wg js ((cN s 10).take (i+1))=wg js ((cN s 10).take i)+(js.getD (cN s 10)[i] (0,0)).1:=by
   exact alS _ _ bC
  have mP:=alQ hj ((cN s 10).take (i+1)) fun x hx=>aD x (List.mem_of_mem_take hx)
  rw [List.length_take,bD] at mP
  simp only [g1,g2,ah,Jt,cn,Nat.add_zero,ld,r1,r2,cQ,fA i (by omega)]
  rw [wrap64 (by omega) (by omega),←bD]
  simp only [true_and]
  exact hL (i+1) (by omega) (by omega)
 ·have fY:i=(cN s 10).length:=by omega
  subst fY
  rw [List.take_length,aA5]
  exact hk g xg
end
end Go.Proofs.YtelmdbpaoifmoaaGreat
namespace Go.Sim
section
def jT (bs:List Nat) (s i:Nat):Bool:= !s.testBit i&&jF (bs.getD i 0) s
def cJ (n:Nat):Nat:=2^n-1
theorem Sd {s i:Nat} (h:s.testBit i=false):s<s ||| 2^i:=by
 have h1:s≤s ||| 2^i:=Nat.left_le_or
 rcases Nat.lt_or_eq_of_le h1 with h2 | h2
 ·exact h2
 ·exfalso
  have:=congrArg (fun m=>m.testBit i) h2
  simp only [th] at this
  rw [h] at this
  simp at this
theorem B7 {bs:List Nat} {s i:Nat} (h:jT bs s i=true):s.testBit i=false:=by
 unfold jT at h
 rw [and_eq_true] at h
 simpa using h.1
end
section
def uv:Nat→List Nat→Nat
 | s,[]=>s
 | s,i::l=>uv (s ||| 2^i) l
def pQ (bs:List Nat) (n:Nat):Nat→List Nat→Bool
 | _,[]=>true
 | s,i::l=>(decide (i<n)&&jT bs s i)&&pQ bs n (s ||| 2^i) l
theorem Jx {bs:List Nat} {n:Nat}:∀{s:Nat} {l:List Nat},pQ bs n s l=true→∀i∈l,i<n
 | s,[],_,i,hi=>by simp at hi
 | s,j::l,h,i,hi=>by
  simp only [pQ,and_eq_true,decide_eq_true_eq] at h
  rcases mem_cons.1 hi with rfl | hi
  ·exact h.1.1
  ·exact Jx h.2 i hi
def fP (js:List (Int×Int)) (i:Nat):Int:=(js.getD i (0,0)).1
def jH (js:List (Int×Int)) (i:Nat):Int:=(js.getD i (0,0)).2
def tE (js:List (Int×Int)):Int→List Nat→Int
 | _,[]=>0
 | now,i::l=>jH js i*(now+fP js i)+tE js (now+fP js i) l
end
section
def nE (s:Nat):Nat→List Nat
 | 0=>[]
 | i+1=>if s.testBit i=true then nE s i++[i] else nE s i
def kK (js:List (Int×Int)) (s:Nat):Int:=jr (nE s 10) (fP js)
theorem Sx (js:List (Int×Int)) {s i:Nat} (hi:i<10) (hb:s.testBit i=false):kK js (s ||| 2^i)=kK js s+fP js i:=by
 have key:∀m,jr (nE (s ||| 2^i) m) (fP js)=jr (nE s m) (fP js)+if i<m then fP js i else 0:=by
  intro m
  induction m with
  | zero=>simp [nE,jr]
  | succ m ih=>
   simp only [nE,th]
   by_cases eR:i=m
   ·subst eR
    rw [hb]
    simp only [decide_true,Bool.or_true,if_true,Cf,jr,ih]
    simp
   ·have:decide (i=m)=false:=aU eR
    rw [this,Bool.or_false]
    have h2:(if i<m+1 then fP js i else 0)=if i<m then fP js i else 0:=by
     by_cases h3:i<m
     ·rw [if_pos h3,if_pos (by omega)]
     ·rw [if_neg h3,if_neg (by omega)]
    rw [h2]
    split
    ·simp only [Cf,jr,ih];omega
    ·exact ih
 have:=key 10
 rw [if_pos hi] at this
 exact this
theorem ayL (js:List (Int×Int)):kK js 0=0:=by
 have:∀m,nE 0 m=[]:=by
  intro m
  induction m with
  | zero=>rfl
  | succ m ih=>simp [nE,ih]
 unfold kK
 rw [this];rfl
def nT (bs:List Nat) (js:List (Int×Int)) (s:Nat) (g:Nat→Int):Nat→Int
 | 0=> -1
 | i+1=>if jT bs s i=true then (if nT bs js s g i<0∨jH js i*(kK js s+fP js i)+g i<nT bs js s g i then jH js i*(kK js s+fP js i)+g i else nT bs js s g i) else nT bs js s g i
theorem Oj {bs:List Nat} {js:List (Int×Int)} {s:Nat} {g g':Nat→Int}:∀{m:Nat},(∀i,i<m→jT bs s i=true→g i=g' i)→nT bs js s g m=nT bs js s g' m
 | 0,_=>rfl
 | m+1,h=>by
  have ih:=Oj (bs:=bs) (js:=js) (s:=s) (g:=g) (g':=g') (m:=m) fun i hi=>h i (by omega)
  simp only [nT,ih]
  split
  ·rename_i hr
   rw [h m (by omega) hr]
  ·rfl
def lO (bs:List Nat) (js:List (Int×Int)) (n:Nat):Nat→Nat→Int
 | 0,_=>0
 | f+1,s=>if s=cJ n then 0 else nT bs js s (fun i=>lO bs js n f (s ||| 2^i)) n
theorem afo (bs:List Nat) (js:List (Int×Int)) (n:Nat):∀(f s:Nat),s<2^n→cJ n-s≤f→lO bs js n (f+1) s=lO bs js n f s
 | 0,s,hs,hf=>by
  have:s=cJ n:=by unfold cJ at*;omega
  simp [lO,this]
 | f+1,s,hs,hf=>by
  by_cases he:s=cJ n
  ·simp [lO,he]
  ·rw [lO,lO,if_neg he,if_neg he]
   refine Oj fun i hi hr=>?_
   have h1:=Sd (B7 hr)
   exact afo bs js n f _ (BW hs hi) (by unfold cJ at*;omega)
def ki (bs:List Nat) (js:List (Int×Int)) (n s:Nat):Int:=lO bs js n (cJ n) s
theorem ays (bs:List Nat) (js:List (Int×Int)) (n:Nat) {s:Nat} (hs:s<2^n) {f:Nat} (h1:cJ n-s≤f) (h2:f≤cJ n):lO bs js n f s=ki bs js n s:=by
 unfold ki
 obtain ⟨d,hd⟩:∃d,cJ n=f+d:=⟨cJ n-f,by omega⟩
 have key:∀d,lO bs js n (f+d) s=lO bs js n f s:=by
  intro d
  induction d with
  | zero=>rfl
  | succ d ih=>rw [show f+(d+1)=f+d+1 by omega,afo bs js n (f+d) s hs (by omega),ih]
 rw [hd]
 exact (key d).symm
theorem afp (bs:List Nat) (js:List (Int×Int)) (n:Nat):ki bs js n (cJ n)=0:=by
 unfold ki
 cases h:cJ n with
 | zero=>rfl
 | succ f=>rw [lO,if_pos h.symm]
theorem ayu (bs:List Nat) (js:List (Int×Int)) (n:Nat) {s:Nat} (hs:s<cJ n):ki bs js n s=nT bs js s (fun i=>ki bs js n (s ||| 2^i)) n:=by
 have jD:s<2^n:=by unfold cJ at hs;omega
 obtain ⟨f,hf⟩:∃f,cJ n=f+1:=⟨cJ n-1,by omega⟩
 conv=>lhs;unfold ki;rw [hf,lO,if_neg (by omega)]
 refine Oj fun i hi hr=>?_
 have h1:=Sd (B7 hr)
 exact ays bs js n (BW jD hi) (by omega) (by omega)
def xG (js:List (Int×Int)):Prop:=∀i,(0≤fP js i∧fP js i≤50)∧0≤jH js i∧jH js i≤50
theorem ayK {js:List (Int×Int)} (h:xG js) (s:Nat):0≤kK js s∧kK js s≤500:=by
 have key:∀m,0≤jr (nE s m) (fP js)∧jr (nE s m) (fP js)≤50*m:=by
  intro m
  induction m with
  | zero=>simp [nE,jr]
  | succ m ih=>
   have:=h m
   simp only [nE]
   split
   ·simp only [Cf,jr];omega
   ·omega
 have:=key 10
 unfold kK
 omega
theorem abH {js:List (Int×Int)} (h:xG js) (s i:Nat):0≤jH js i*(kK js s+fP js i)∧jH js i*(kK js s+fP js i)≤27500:=by
 have h1:=h i
 have h2:=ayK h s
 have QN:0≤jH js i*(kK js s+fP js i):=Int.mul_nonneg h1.2.1 (by omega)
 have vk:jH js i*(kK js s+fP js i)≤50*550:=Int.mul_le_mul h1.2.2 (by omega) (by omega) (by omega)
 omega
theorem Ok {bs:List Nat} {js:List (Int×Int)} (h:xG js) {s:Nat} {g:Nat→Int}:∀{m:Nat},(∀i,i<m→jT bs s i=true→0≤g i)→
  (nT bs js s g m= -1∧∀i,i<m→jT bs s i=false)∨(0≤nT bs js s g m∧(∃i,i<m∧jT bs s i=true∧nT bs js s g m=jH js i*(kK js s+fP js i)+g i)∧∀i,i<m→jT bs s i=true→nT bs js s g m≤jH js i*(kK js s+fP js i)+g i)
 | 0,_=>.inl ⟨rfl,fun i hi=>by omega⟩
 | m+1,hg=>by
  have hc:=(abH h s m).1
  have ih:=Ok h (bs:=bs) (s:=s) (g:=g) (m:=m) fun i hi=>hg i (by omega)
  by_cases hr:jT bs s m=true
  ·have hgm:=hg m (by omega) hr
   simp only [nT,hr,if_true]
   rcases ih with ⟨e,dG⟩ | ⟨h0,⟨j,j1,j2,j3⟩,hle⟩
   ·rw [e,if_pos (.inl (by omega))]
    refine .inr ⟨by omega,⟨m,by omega,hr,rfl⟩,fun i hi jo=>?_⟩
    by_cases eR:i=m
    ·subst eR;exact Int.le_refl _
    ·rw [dG i (by omega)] at jo;cases jo
   ·by_cases aD:jH js m*(kK js s+fP js m)+g m<nT bs js s g m
    ·rw [if_pos (.inr aD)]
     refine .inr ⟨by omega,⟨m,by omega,hr,rfl⟩,fun i hi jo=>?_⟩
     by_cases eR:i=m
     ·subst eR;exact Int.le_refl _
     ·have:=hle i (by omega) jo;omega
    ·rw [if_neg (by omega)]
     refine .inr ⟨h0,⟨j,by omega,j2,j3⟩,fun i hi jo=>?_⟩
     by_cases eR:i=m
     ·subst eR;omega
     ·exact hle i (by omega) jo
  ·have qx:jT bs s m=false:=by simpa using hr
   simp only [nT,qx]
   simp only [false_eq_true,if_false]
   rcases ih with ⟨e,dG⟩ | ⟨h0,⟨j,j1,j2,j3⟩,hle⟩
   ·refine .inl ⟨e,fun i hi=>?_⟩
    by_cases eR:i=m
    ·subst eR;exact qx
    ·exact dG i (by omega)
   ·refine .inr ⟨h0,⟨j,by omega,j2,j3⟩,fun i hi jo=>?_⟩
    by_cases eR:i=m
    ·subst eR;rw [qx] at jo;cases jo
    ·exact hle i (by omega) jo
def AI (bs:List Nat) (n:Nat):Prop:=∀s,s<cJ n→∃i,i<n∧jT bs s i=true
theorem afn {bs:List Nat} {js:List (Int×Int)} (h:xG js) {n:Nat} (hu:AI bs n):∀(f s:Nat),s<2^n→0≤lO bs js n f s∧lO bs js n f s≤27500*f
 | 0,s,hs=>by simp [lO]
 | f+1,s,hs=>by
  rw [lO]
  by_cases he:s=cJ n
  ·rw [if_pos he];omega
  ·rw [if_neg he]
   have BA:s<cJ n:=by unfold cJ at*;omega
   have ih:∀i,i<n→0≤lO bs js n f (s ||| 2^i)∧lO bs js n f (s ||| 2^i)≤27500*f:=fun i hi=>afn h hu f _ (BW hs hi)
   rcases Ok h (bs:=bs) (s:=s) (g:=fun i=>lO bs js n f (s ||| 2^i)) (m:=n) (fun i hi _=>(ih i hi).1) with ⟨_,dG⟩ | ⟨h0,⟨j,j1,j2,j3⟩,_⟩
   ·obtain ⟨i,hi,hr⟩:=hu s BA
    rw [dG i hi] at hr;cases hr
   ·refine ⟨h0,?_⟩
    rw [j3]
    have h1:=abH h s j
    have h2:=ih j j1
    omega
theorem ayt {bs:List Nat} {js:List (Int×Int)} (h:xG js) {n:Nat} (hn:n≤10) (hu:AI bs n) {s:Nat} (hs:s<2^n):0≤ki bs js n s∧ki bs js n s≤30000000:=by
 have:=afn h hu (cJ n) s hs
 have h2n:(2:Nat)^n≤2^10:=pow_le_pow_right (by decide) hn
 have:cJ n≤1023:=by unfold cJ;omega
 unfold ki
 omega
theorem ayv {bs:List Nat} {js:List (Int×Int)} (h:xG js) {n:Nat} (hn:n≤10) (hu:AI bs n) {s:Nat} (hs:s<cJ n):
  (∃i,i<n∧jT bs s i=true∧ki bs js n s=jH js i*(kK js s+fP js i)+ki bs js n (s ||| 2^i))∧∀i,i<n→jT bs s i=true→ki bs js n s≤jH js i*(kK js s+fP js i)+ki bs js n (s ||| 2^i):=by
 have jD:s<2^n:=by unfold cJ at hs;omega
 rw [ayu bs js n hs]
 rcases Ok h (bs:=bs) (s:=s) (g:=fun i=>ki bs js n (s ||| 2^i)) (m:=n) (fun i hi _=>(ayt h hn hu (BW jD hi)).1) with ⟨_,dG⟩ | ⟨_,b,c⟩
 ·obtain ⟨i,hi,hr⟩:=hu s hs
  rw [dG i hi] at hr;cases hr
 ·exact ⟨b,c⟩
theorem afq {bs:List Nat} {js:List (Int×Int)} (h:xG js) {n:Nat} (hn:n≤10) (hu:AI bs n):∀{l:List Nat} {s:Nat},s<2^n→pQ bs n s l=true→uv s l=cJ n→ki bs js n s≤tE js (kK js s) l
 | [],s,hs,_,he=>by
  have fK:s=cJ n:=he
  rw [fK,afp]
  exact Int.le_refl _
 | i::l,s,hs,aG,he=>by
  simp only [pQ,and_eq_true,decide_eq_true_eq] at aG
  obtain ⟨⟨hi,hr⟩,Q5⟩:=aG
  have h1:=Sd (B7 hr)
  have h2:=BW hs hi
  have BA:s<cJ n:=by unfold cJ;omega
  have h3:=(ayv h hn hu BA).2 i hi hr
  have ih:=afq h hn hu (l:=l) h2 Q5 he
  rw [Sx js (by omega) (B7 hr)] at ih
  simp only [tE]
  omega
end
section
theorem acy (n:Nat):cJ n<2^n:=by
 have:0<2^n:=Nat.pow_pos (by decide)
 unfold cJ;omega
def Pp (bs:List Nat) (n t:Nat):Prop:=∀s,(∃j,t.testBit j=true∧s.testBit j=false)→∃i,i<n∧jT bs s i=true
theorem Pp.step {bs:List Nat} {n t i:Nat} (h:Pp bs n t) (hi:i<n) (hr:jT bs t i=true):Pp bs n (t ||| 2^i):=by
 rintro s ⟨j,h1,h2⟩
 by_cases rF:∃j,t.testBit j=true∧s.testBit j=false
 ·exact h s rF
 ·have D7:∀k,t.testBit k=true→s.testBit k=true:=by
   intro k hk
   cases hs:s.testBit k with
   | true=>rfl
   | false=>exact absurd ⟨k,hk,hs⟩ rF
  rw [th] at h1
  have eC:i=j:=by
   cases ht:t.testBit j with
   | true=>have:=D7 j ht;rw [h2] at this;cases this
   | false=>rw [ht] at h1;simpa using h1
  subst eC
  refine ⟨i,hi,?_⟩
  unfold jT at hr⊢
  rw [h2,Bool.not_false,Bool.true_and,pa]
  rw [and_eq_true,pa] at hr
  exact fun k hk=>D7 k (hr.2 k hk)
theorem wT (n j:Nat):(cJ n).testBit j=decide (j<n):=Nat.testBit_two_pow_sub_one n j
theorem auO {n s:Nat} (hs:s<2^n) (h:∀j,j<n→s.testBit j=true):s=cJ n:=by
 apply eq_of_testBit_eq
 intro j
 rw [wT]
 by_cases hj:j<n
 ·rw [a9 hj,h j hj]
 ·rw [aU hj]
  exact Nat.testBit_lt_two_pow (lt_of_lt_of_le hs (pow_le_pow_right (by decide) (by omega)))
theorem Sw {n s:Nat} (hs:s<cJ n):∃j,j<n∧s.testBit j=false:=by
 apply byContradiction
 intro dG
 have:s=cJ n:=auO (lt_of_lt_of_le hs (Nat.le_of_lt (acy n))) fun j hj=>by
  cases ht:s.testBit j with
  | true=>rfl
  | false=>exact absurd ⟨j,hj,ht⟩ dG
 omega
end
end Go.Sim
namespace Go.Proofs.YtelmdbpaoifmoaaGreat
open Go.Sim
section
def J7 (n:Nat) (p:Int×Int):Bool:=(decide (0≤min p.1 p.2)&&decide (max p.1 p.2<n))&& !decide (p.1=p.2)
theorem acz (n:Nat):Gb n=cJ n:=rfl
structure BS (ps:List (Int×Int)) (n:Nat) (bs:List Nat):Prop where
 len:bs.length=n
 lt:∀b∈bs,b<2^n
 bit:∀i,i<n→∀j:Nat,(bs.getD i 0).testBit j=decide (((j:Int),(i:Int))∈ps)
end
section
def wh (js:List (Int×Int)) (l:List Nat):Int:=jr l fun i=>(js.getD i (0,0)).2
theorem alU {js:List (Int×Int)} (h:pV js):∀l:List Nat,(∀i∈l,i<js.length)→0≤wh js l∧wh js l≤50*l.length
 | [],_=>by simp [wh,jr]
 | i::l,hl=>by
  have ih:=alU h l fun x hx=>hl x (by simp [hx])
  have:=h.getD (hl i (by simp))
  unfold wh at ih⊢
  simp only [jr,length_cons]
  omega
theorem Wq {p:Value} {js:List (Int×Int)} {bs:List Nat} {s:Nat} {h:ae} {K:Value→ae→Prop} (hp:PL h p js bs) (hj:pV js) (hl:js.length≤10) (hs:s<2^js.length) (hk:∀h',EX h h'→K (I (wh js (cN s 10))) h'):aj prog 76 [p,U s] h K:=by
 have avr:(2:Nat)^js.length≤2^10:=pow_le_pow_right (by decide) hl
 refine f76 (Lr (by omega) ?_)
 intro v g xg hn
 obtain ⟨a,vj,vb,rfl,hc,QF,DH⟩:=hp.mono xg
 have aD:∀i∈cN s 10,i<js.length:=by
  intro i hi
  have h1:=(BO s 10 i hi).2
  apply byContradiction
  intro cK
  have:s<2^i:=lt_of_lt_of_le hs (pow_le_pow_right (by decide) (by omega))
  rw [Nat.testBit_lt_two_pow this] at h1
  cases h1
 have QK:=Eo s 10
 have zH:bj v=some (I (cN s 10).length):=by have:=hn.len;rwa [length_map] at this
 simp only [zH,ah]
 refine dL (σ:=Nat) (fun i=>[I (wh js ((cN s 10).take i)),I i]) (fun _=>g) (fun i=>i≤(cN s 10).length) (fun i=>(cN s 10).length-i) 0 rfl rfl (zero_le _) ?_
 intro i hi L hL
 rw [aB3]
 simp only [cW,ah,bX]
 refine ⟨fun mm=>?_,fun cK=>?_⟩
 ·have bC:i<(cN s 10).length:=by omega
  obtain ⟨b,o,g1,g2⟩:=hn.get i (by simpa using bC)
  have e:((cN s 10).map fun i:Nat=>(i:Int))[i]'(by simpa using bC)=((cN s 10)[i]:Int):=by simp
  rw [e] at g2
  have hm:=aD _ (getElem_mem bC)
  obtain ⟨c,q,r1,r2,r3,r4⟩:=PS.getD QF hm
  have ld:af false 1 g (pt a 0)=some vj:=by simp [af,hc,cf]
  have bD:wh js ((cN s 10).take (i+1))=wh js ((cN s 10).take i)+(js.getD (cN s 10)[i] (0,0)).2:=by
   exact alS _ _ bC
  have mP:=alU hj ((cN s 10).take (i+1)) fun x hx=>aD x (List.mem_of_mem_take hx)
  rw [List.length_take,bD] at mP
  simp only [g1,g2,ah,Jt,cn,Nat.add_zero,ld,r1,r3,cQ,fA i (by omega)]
  rw [wrap64 (by omega) (by omega),←bD]
  simp only [true_and]
  exact hL (i+1) (by omega) (by omega)
 ·have fY:i=(cN s 10).length:=by omega
  subst fY
  rw [List.take_length,aB2]
  exact hk g xg
def sZ (f:Nat→Bool):Nat→Nat
 | 0=>0
 | n+1=>if f n=true then sZ f n ||| 2^n else sZ f n
theorem aht (f:Nat→Bool):∀n,sZ f n<2^n
 | 0=>by simp [sZ]
 | n+1=>by
  have h:=aht f n
  have h2:(2:Nat)^n<2^(n+1):=Nat.pow_lt_pow_right (by decide) (by omega)
  simp only [sZ]
  split
  ·exact BW (by omega) (by omega)
  ·omega
theorem ahs (f:Nat→Bool) (j:Nat):∀n,(sZ f n).testBit j=(decide (j<n)&&f j)
 | 0=>by simp [sZ]
 | n+1=>by
  have h:=ahs f j n
  simp only [sZ]
  by_cases hj:n=j
  ·subst hj
   have hf:(sZ f n).testBit n=false:=by rw [h];simp
   split
   ·rename_i hn;rw [th,hf,hn];simp
   ·rename_i hn
    have:f n=false:=by simpa using hn
    rw [hf,this];simp
  ·have e:decide (j<n+1)=decide (j<n):=by rw [decide_eq_decide];omega
   rw [e]
   split
   ·rw [th,h];simp [hj]
   ·exact h
def yf (ps:List (Int×Int)) (n:Nat):List Nat:=(List.range n).map fun i:Nat=>sZ (fun j:Nat=>decide (((j:Int),(i:Int))∈ps)) n
theorem ap3 (ps:List (Int×Int)) (n:Nat):(yf ps n).length=n:=by simp [yf]
theorem ap2 (ps:List (Int×Int)) {n i:Nat} (hi:i<n):(yf ps n).getD i 0=sZ (fun j:Nat=>decide (((j:Int),(i:Int))∈ps)) n:=by
 simp [yf,getD_eq_getElem?_getD,hi]
theorem BS.uniq {ps:List (Int×Int)} {n:Nat} {bs nm:List Nat} (b:BS ps n bs) (b':BS ps n nm):bs=nm:=by
 apply List.ext_getElem (by rw [b.len,b'.len])
 intro i h1 h2
 have e1:bs[i]=bs.getD i 0:=by simp [getD_eq_getElem?_getD,h1]
 have e2:nm[i]=nm.getD i 0:=by simp [getD_eq_getElem?_getD,h2]
 rw [e1,e2]
 apply eq_of_testBit_eq
 intro j
 have hi:i<n:=by rw [←b.len];exact h1
 rw [b.bit i hi j,b'.bit i hi j]
theorem ay9 {n:Nat} {ps:List (Int×Int)} (h:ps.all (J7 n)=true) {p:Int×Int} (hp:p∈ps):(0≤p.1∧p.1<n)∧(0≤p.2∧p.2<n)∧p.1≠p.2:=by
 have:=List.all_eq_true.1 h p hp
 simp only [J7,and_eq_true,decide_eq_true_eq,Bool.not_eq_true',decide_eq_false_iff_not] at this
 omega
theorem BS.of {ps:List (Int×Int)} {n:Nat} (h:ps.all (J7 n)=true):BS ps n (yf ps n):=by
 refine ⟨ap3 ps n,?_,?_⟩
 ·intro b hb
  simp only [yf,mem_map,mem_range] at hb
  obtain ⟨i,_,rfl⟩:=hb
  exact aht _ n
 ·intro i hi j
  rw [ap2 ps hi,ahs]
  by_cases hm:((j:Int),(i:Int))∈ps
  ·have:=ay9 h hm
   simp only at this
   rw [a9 (show j<n by omega),a9 hm];rfl
  ·rw [aU hm,Bool.and_false]
structure Vd (js ps:List (Int×Int)) (n:Nat) (bs:List Nat):Prop where
 hn:js.length=n
 n1:1≤n
 n10:n≤10
 p40:ps.length≤40
 small:pV js
 B4:ps.all (J7 n)=true
 eq:bs=yf ps n
 is:BS ps n bs
 ac:AI bs n
theorem Vd.two {js ps:List (Int×Int)} {n:Nat} {bs:List Nat} (v:Vd js ps n bs):2^n≤1024:=pow_le_pow_right (show 0<2 by decide) v.n10
end
section
end
end Go.Proofs.YtelmdbpaoifmoaaGreat
namespace Go.Sim
section
def nV (a b:Nat):Nat:=a^^^(a &&& b)
theorem AV (a b j:Nat):(nV a b).testBit j=(a.testBit j&& !b.testBit j):=by
 unfold nV
 rw [Nat.testBit_xor,testBit_and]
 cases a.testBit j <;> cases b.testBit j <;> rfl
theorem abW (a b:Nat):nV a b≤a:=by
 have h:nV a b=a &&& nV a b:=by
  apply eq_of_testBit_eq
  intro j
  rw [testBit_and,AV]
  cases a.testBit j <;> cases b.testBit j <;> rfl
 rw [h]
 exact Nat.and_le_left
theorem abX {a b:Nat}:nV a b=0↔jF a b=true:=by
 rw [pa]
 constructor
 ·intro h i hi
  have:=congrArg (fun m=>m.testBit i) h
  simp only [AV,Nat.zero_testBit,hi,Bool.true_and] at this
  simpa using this
 ·intro h
  apply eq_of_testBit_eq
  intro j
  rw [AV,Nat.zero_testBit]
  cases hj:a.testBit j with
  | false=>rfl
  | true=>rw [h j hj];rfl
theorem Yg {k:IntKind} (hk:SK k) {a b:Nat} (ha:a<1024) (hb:b<1024):ai .andNot (.int k (a:Int)) (.int k (b:Int))=some (.int k ((nV a b:Nat):Int)):=by
 have e:ai .andNot (.int k (a:Int)) (.int k (b:Int))=some (Value.int k (k.wrap ((BitVec.ofInt k.bits (a:Int) &&& ~~~BitVec.ofInt k.bits (b:Int)).toNat:Int))):=by simp [ai,hI]
 have h2:(BitVec.ofInt k.bits (a:Int) &&& ~~~BitVec.ofInt k.bits (b:Int))=BitVec.ofInt k.bits (a:Int)^^^(BitVec.ofInt k.bits (a:Int) &&& BitVec.ofInt k.bits (b:Int)):=by
  ext i hi
  simp only [BitVec.getElem_and,BitVec.getElem_not,BitVec.getElem_xor]
  generalize (BitVec.ofInt k.bits (a:Int))[i]=p
  generalize (BitVec.ofInt k.bits (b:Int))[i]=q
  cases p <;> cases q <;> rfl
 rw [e,h2,BitVec.toNat_xor,BitVec.toNat_and,hk.toNat ha,hk.toNat hb]
 have:=abW a b
 unfold nV at this
 rw [hk.wrap (by omega) (by omega)]
 rfl
theorem Yh {a b:Nat}:a &&& b=0↔∀j,a.testBit j=true→b.testBit j=false:=by
 constructor
 ·intro h j hj
  have:=congrArg (fun m=>m.testBit j) h
  simp only [testBit_and,Nat.zero_testBit,hj,Bool.true_and] at this
  exact this
 ·intro h
  apply eq_of_testBit_eq
  intro j
  rw [testBit_and,Nat.zero_testBit]
  cases hj:a.testBit j with
  | false=>rfl
  | true=>rw [h j hj];rfl
end
end Go.Sim
namespace Go.Proofs.YtelmdbpaoifmoaaGreat
open Go.Sim
section
theorem pV.all {js:List (Int×Int)} (h:pV js) (i:Nat):(0≤fP js i∧fP js i≤50)∧0≤jH js i∧jH js i≤50:=by
 unfold fP jH
 by_cases hi:i<js.length
 ·have:=h.getD hi;omega
 ·have:js.getD i (0,0)=(0,0):=by
   simp only [getD_eq_getElem?_getD]
   rw [List.getElem?_eq_none (by omega)];rfl
  rw [this];simp
theorem NS.zH {h:ae} {v:Value} {l:List Nat} (p:NS h v .i64 (l.map fun i:Nat=>(i:Int))):bj v=some (I l.length):=by have:=p.len;rwa [length_map] at this
end
section
variable (P : Program) (K : VK)
noncomputable section
variable (p0 x3 s4 x7 x8 x9 kZ au wF wG aP aO bW cC cG df iY gh iZ tq : Value) (L1 L2 : LQ) (xs : List Value) (h : ae)
def ag5:=bz prog 73 [[],[],[],[0,3,18],[19],[],[],[],[],[],[0,3,4,18,19,27,28],[29],[],[],[],[],[0,3,4,18,19,27,28,29],[0,3,18,19],[0,3],[],[],[0,3],[7,8],[],[],[],[],[0,3,7,8,54],[9],[],[],[],[0,3,7,8,9,10,54,64],[0,3,7,8,9,10,54,64,67],[],[],[],[],[0,3,7,8,9,11,12,13,54,89],[0,3,7,8,9,11,12,13,54,89,92],[],[],[0,3,7,8,9],[7],[]]
@[irreducible] def He:=bI ag5
@[irreducible] def OY:=He.r.r.l.r.l.l
@[irreducible] def aa2:=He.r.r.r
@[irreducible] def aa0:=OY.r.r.l.l.r.r.r.l.l
@[irreducible] def aa6:=OY.r.r.r
@[irreducible] def OV:=aa2.l
@[irreducible] def asy:=aa0.r.r.r.l
@[irreducible] def asA:=aa6.l
@[irreducible] def OW:=OV.r.l.r.l.l
@[irreducible] def aa1:=OV.r.r
@[irreducible] def Hf:=OW.r.l.r.l.r.l.l
@[irreducible] def aa3:=OW.r.l.r.r
@[irreducible] def asG:=aa1.l
@[irreducible] def aa4:=Hf.r.r.l.r.l.l.r.l
@[irreducible] def asB:=Hf.r.r.l.r.l.r
@[irreducible] def OX:=Hf.r.r.l.r.r
@[irreducible] def asF:=aa3.l
@[irreducible] def asC:=aa4.r.l
@[irreducible] def aa5:=OX.r.r.l.l.r.l
@[irreducible] def asD:=OX.r.r.l.r
@[irreducible] def asE:=aa5.r.l
theorem k73:ag5=some (110,He,[.tmp 2]):=by kernel_rfl
def Az (_P:Program) (K:VK):ar:=aS [.tmp 2] K
def api:ar:=aF (iu P aa2 (Az P K)) (Az P K)
def apl:ar:=bN 0 (api P K)
def F0:ar:=aF (fun f' aT=>(([0,3,18]:List Nat).map f':List Value)=[p0,x3,aP]∧L1 (([19]:List Nat).map f') aT) (apl P K)
def apm:ar:=aF (iu P aa6 (F0 P K p0 x3 aP L1)) (F0 P K p0 x3 aP L1)
def ape:ar:=bN 1 (apm P K p0 x3 aP L1)
def apf:ar:=bN 2 (ape P K p0 x3 aP L1)
def Xv:ar:=aF (fun f' aT=>(([0,3,4,18,19,27,28]:List Nat).map f':List Value)=[p0,x3,s4,aP,aO,bW,cC]∧L2 (([29]:List Nat).map f') aT) (apf P K p0 x3 aP L1)
def apg:ar:=aF (iu P aa1 (Az P K)) (Az P K)
def aph:ar:=bN 4 (apg P K)
def Xw:ar:=aF (fun f' aT=>(([0,3]:List Nat).map f':List Value)=[p0,x3]∧L1 (([7,8]:List Nat).map f') aT) (aph P K)
def Mc:ar:=bN 5 (Xw P K p0 x3 L1)
def apj:ar:=aF (iu P aa3 (Mc P K p0 x3 L1)) (Mc P K p0 x3 L1)
def apk:ar:=bN 6 (apj P K p0 x3 L1)
def Xx:ar:=aF (fun f' aT=>(([0,3,7,8,54]:List Nat).map f':List Value)=[p0,x3,x7,x8,df]∧L2 (([9]:List Nat).map f') aT) (apk P K p0 x3 L1)
def Md:ar:=bN 7 (Xx P K p0 x3 x7 x8 df L1 L2)
def Xy:ar:=aF (iu P OX (Md P K p0 x3 x7 x8 df L1 L2)) (Md P K p0 x3 x7 x8 df L1 L2)
def Xz:ar:=aF (iu P asB (Xy P K p0 x3 x7 x8 df L1 L2)) (Xy P K p0 x3 x7 x8 df L1 L2)
def XA:ar:=bN 8 (Md P K p0 x3 x7 x8 df L1 L2)
def XB:ar:=aF (iu P asD (XA P K p0 x3 x7 x8 df L1 L2)) (XA P K p0 x3 x7 x8 df L1 L2)
def ajF:Prop:=ay (iu P OY (F0 P K p0 x3 aP L1)) ([0,3,18]++[19]) ([p0,x3,aP]++xs) h
def ajw:Prop:=ay (iu P aa0 (Xv P K p0 x3 s4 aP aO bW cC L1 L2)) ([0,3,4,18,19,27,28]++[29]) ([p0,x3,s4,aP,aO,bW,cC]++xs) h
def TF:Prop:=ay (iu P asy (Xv P K p0 x3 s4 aP aO bW cC L1 L2)) [0,3,4,18,19,27,28,29] [p0,x3,s4,aP,aO,bW,cC,cG] h
def ajx:Prop:=ay (iu P asA (F0 P K p0 x3 aP L1)) [0,3,18,19] [p0,x3,aP,aO] h
def ajy:Prop:=ay (iu P OV (Az P K)) [0,3] [p0,x3] h
def ajz:Prop:=ay (iu P OW (Xw P K p0 x3 L1)) ([0,3]++[7,8]) ([p0,x3]++xs) h
def ajA:Prop:=ay (iu P Hf (Xx P K p0 x3 x7 x8 df L1 L2)) ([0,3,7,8,54]++[9]) ([p0,x3,x7,x8,df]++xs) h
def ajB:Prop:=ay (iu P aa4 (Xz P K p0 x3 x7 x8 df L1 L2)) [0,3,7,8,9,10,54,64] [p0,x3,x7,x8,x9,kZ,df,iY] h
def TH:Prop:=ay (iu P asC (Xz P K p0 x3 x7 x8 df L1 L2)) [0,3,7,8,9,10,54,64,67] [p0,x3,x7,x8,x9,kZ,df,iY,gh] h
def ajC:Prop:=ay (iu P aa5 (XB P K p0 x3 x7 x8 df L1 L2)) [0,3,7,8,9,11,12,13,54,89] [p0,x3,x7,x8,x9,au,wF,wG,df,iZ] h
def TI:Prop:=ay (iu P asE (XB P K p0 x3 x7 x8 df L1 L2)) [0,3,7,8,9,11,12,13,54,89,92] [p0,x3,x7,x8,x9,au,wF,wG,df,iZ,tq] h
def ajD:Prop:=ay (iu P asF (Mc P K p0 x3 L1)) [0,3,7,8,9] [p0,x3,x7,x8,x9] h
def ajE:Prop:=ay (iu P asG (Az P K)) [7] [x7] h
theorem ak7:TF P K p0 x3 s4 aP aO bW cC cG L1 L2 h=
 (OP (ai .add cG (.int .i64 (1))) fun nK=>
 ([p0,x3,s4,aP,aO,bW,cC]:List Value)=[p0,x3,s4,aP,aO,bW,cC]∧L2 [nK] h):=az (by kernel_rfl)
theorem aBQ (p0 x3 s4 aP aO bW cC:Value) (L1 L2:LQ) (cG:Value) (h:ae):ajw P K p0 x3 s4 aP aO bW cC L1 L2 [cG] h=
 (OP (ai .lss cG cC) fun dj=>
 aQ dj
 (OP (bc 1 bW cG) fun cA=>
 OP (af false 1 h cA) fun cO=>
 OP (xt p0) fun cP=>
 OP (aL 1 cP) fun cZ=>
 OP (af false 1 h cZ) fun cT=>
 OP (bc 1 cT cO) fun dC=>
 OP (af false 1 h dC) fun eJ=>
 OP (dh .u16 s4) fun ef=>
 OP (ai .andNot eJ ef) fun eL=>
 OP (ai .neq eL (.int .u16 (0))) fun bV=>
 aQ bV
 (OP (dh .u16 s4) fun dm=>
 OH (Sy (.int .u16) h x3 dm) fun _ z1=>
 TF P K p0 x3 s4 aP aO bW cC cG L1 L2 z1)
 (TF P K p0 x3 s4 aP aO bW cC cG L1 L2 h))
 (ajx P K p0 x3 aP aO L1 h)):=az (by kernel_rfl)
theorem aBR:ajx P K p0 x3 aP aO L1 h=
 (OP (ai .add aO (.int .i64 (1))) fun fC=>
 ([p0,x3,aP]:List Value)=[p0,x3,aP]∧L1 [fC] h):=az (by kernel_rfl)
theorem aBZ (p0 x3 aP:Value) (L1:LQ) (aO:Value) (h:ae):ajF P K p0 x3 aP L1 [aO] h=
 (OP (ai .lss aO aP) fun aW=>
 aQ aW
 (OP (dh .u16 aO) fun bu=>
 OH (BU (.int .u16) h x3 bu (.bool true)) fun _ z1=>
 OP (dh .u16 aO) fun cg=>
 aj P 74 [cg] z1 fun bW z2=>
 OP (bj bW) fun cC=>
 cM [(.int .i64 (0))] z2 fun L2 xs hx=>
 ajw P K p0 x3 aO aP aO bW cC L1 L2 xs hx)
 (ajy P K p0 x3 h)):=az (by kernel_rfl)
theorem ak8:TH P K p0 x3 x7 x8 x9 kZ df iY gh L1 L2 h=
 (OP (bP iY (.bool true) gh) fun gj=>
 aQ gj
 (([p0,x3,x7,x8,df]:List Value)=[p0,x3,x7,x8,df]∧L2 [x9] h)
 (OP (ai .andNot kZ x8) fun iC=>
 aj P 76 [p0,iC] h fun jI z1=>
 aj P 62 [p0,x9] z1 fun iN z2=>
 OP (ai .mul jI iN) fun fw=>
 aj P 76 [p0,x9] z2 fun jK z3=>
 aj P 62 [p0,iC] z3 fun gJ z4=>
 OP (ai .mul jK gJ) fun rW=>
 OP (ai .eql x9 (.int .u16 (0))) fun nM=>
 ajC P K p0 x3 x7 x8 x9 iC fw rW df nM L1 L2 z4)):=az (by kernel_rfl)
theorem aBV:ajB P K p0 x3 x7 x8 x9 kZ df iY L1 L2 h=
 (cm iY false
 (OP (ai .eql kZ x8) fun gh=>
 TH P K p0 x3 x7 x8 x9 kZ df iY gh L1 L2 h)
 (TH P K p0 x3 x7 x8 x9 kZ df iY undef L1 L2 h)):=az (by kernel_rfl)
theorem ak9:TI P K p0 x3 x7 x8 x9 au wF wG df iZ tq L1 L2 h=
 (OP (bP iZ (.bool true) tq) fun jX=>
 aQ jX
 (([p0,x3,x7,x8,df]:List Value)=[p0,x3,x7,x8,df]∧L2 [au] h)
 (OP (ai .eql wF wG) fun VB=>
 aQ VB
 (OP (ai .or x9 au) fun wk=>
 ([p0,x3,x7,x8,df]:List Value)=[p0,x3,x7,x8,df]∧L2 [wk] h)
 (([p0,x3,x7,x8,df]:List Value)=[p0,x3,x7,x8,df]∧L2 [x9] h))):=az (by kernel_rfl)
theorem aBW:ajC P K p0 x3 x7 x8 x9 au wF wG df iZ L1 L2 h=
 (cm iZ false
 (OP (ai .gtr wF wG) fun tq=>
 TI P K p0 x3 x7 x8 x9 au wF wG df iZ tq L1 L2 h)
 (TI P K p0 x3 x7 x8 x9 au wF wG df iZ undef L1 L2 h)):=az (by kernel_rfl)
theorem aBU (p0 x3 x7 x8 df:Value) (L1 L2:LQ) (x9:Value) (h:ae):ajA P K p0 x3 x7 x8 df L1 L2 [x9] h=
 (CL (zR h df) fun gD z1=>
 OP (b9 0 gD) fun iM=>
 aQ iM
 (OP (zp z1 df) fun eO=>
 OP (b9 0 eO) fun fW=>
 OP (ai .and fW x8) fun fQ=>
 OP (ai .neq fQ x8) fun ko=>
 ajB P K p0 x3 x7 x8 x9 fW df ko L1 L2 z1)
 (ajD P K p0 x3 x7 x8 x9 L1 z1)):=az (by kernel_rfl)
theorem aBX:ajD P K p0 x3 x7 x8 x9 L1 h=
 (OH (dH 131 1 [(.int .u16 (0))] h [(0,1,x9)]) fun qX z1=>
 OH (dT 131 1 2 z1 x7 qX) fun mC z2=>
 OP (ai .or x8 x9) fun Am=>
 ([p0,x3]:List Value)=[p0,x3]∧L1 [mC,Am] z2):=az (by kernel_rfl)
theorem aBT (p0 x3:Value) (L1:LQ) (x7 x8:Value) (h:ae):ajz P K p0 x3 L1 [x7,x8] h=
 (aj P 61 [p0] h fun cD z1=>
 OP (ai .neq x8 cD) fun cX=>
 aQ cX
 (OH (BG z1 x3) fun df z2=>
 cM [(.int .u16 (0))] z2 fun L2 xs hx=>
 ajA P K p0 x3 x7 x8 df L1 L2 xs hx)
 (ajE P K x7 z1)):=az (by kernel_rfl)
theorem aBY:ajE P K x7 h=
 (K x7 h):=az (by kernel_rfl)
theorem aBS:ajy P K p0 x3 h=
 (cM [(.slice none 0 0),(.int .u16 (0))] h fun L1 xs hx=>
 ajz P K p0 x3 L1 xs hx):=az (by kernel_rfl)
def NG:Prop:=
 OH (BE (.int .u16) h) fun aH z1=>
 aj P 61 [p0] z1 fun bk z2=>
 OP (dh .i64 bk) fun bM=>
 OP (ai .add bM (.int .i64 (1))) fun aP=>
 cM [(.int .i64 (0))] z2 fun L1 xs hx=>
 ajF P K p0 aH aP L1 xs hx
theorem e73:iu P He (aS [.tmp 2] K) (bt [p0]) h=NG P K p0 h:=by kernel_rfl
theorem f73 {K:VK} {p0:Value} {h:ae} (H:NG prog K p0 h):Cz prog 73 [p0] h K:=
 atl k73 (bH rfl) ((e73 prog K p0 h).mpr H)
end
end
end Go.Proofs.YtelmdbpaoifmoaaGreat
namespace Go.Sim
section
def mA (f:Nat→Int) (s:Nat):Nat→Int
 | 0=>0
 | i+1=>mA f s i+if s.testBit i=true then f i else 0
theorem KQ (f:Nat→Int) (s:Nat):∀n,jr (nE s n) f=mA f s n
 | 0=>rfl
 | n+1=>by
  simp only [nE,mA]
  split
  ·rw [Cf,KQ f s n];simp [jr]
  ·rw [KQ f s n];simp
theorem U5 (f:Nat→Int) (a b:Nat):∀n,mA f (a ||| b) n+mA f (a &&& b) n=mA f a n+mA f b n
 | 0=>rfl
 | n+1=>by
  have h:=U5 f a b n
  simp only [mA,testBit_or,testBit_and]
  cases a.testBit n <;> cases b.testBit n <;> simp <;> omega
theorem U6 (f:Nat→Int):∀n,mA f 0 n=0
 | 0=>rfl
 | n+1=>by simp [mA,U6 f n]
theorem KR {f:Nat→Int} (h:∀i,0≤f i) (s:Nat):∀n,0≤mA f s n
 | 0=>Int.le_refl 0
 | n+1=>by
  have:=KR h s n
  have:=h n
  simp only [mA]
  split <;> omega
theorem U4 {f:Nat→Int} {c:Int} (h:∀i,0≤f i∧f i≤c) (s:Nat):∀n:Nat,mA f s n≤c*n
 | 0=>by simp [mA]
 | n+1=>by
  have h1:=U4 h s n
  have h2:=h n
  have:c*((n+1:Nat):Int)=c*n+c:=by rw [Int.natCast_add,Int.mul_add];simp
  simp only [mA]
  split <;> omega
theorem alO {f:Nat→Int} (h0:∀i,0≤f i) {s i:Nat} (hb:s.testBit i=true) (h1:1≤f i):∀{n:Nat},i<n→1≤mA f s n
 | n+1,hi=>by
  simp only [mA]
  by_cases e:i=n
  ·subst e
   have:=KR h0 s i
   rw [hb];simp;omega
  ·have:=alO h0 hb h1 (n:=n) (by omega)
   have:=h0 n
   split <;> omega
def ri (bs:List Nat) (n s:Nat):Bool:=(List.range n).all fun i=> !s.testBit i||jF (bs.getD i 0) s
theorem wL {bs:List Nat} {n s:Nat}:ri bs n s=true↔∀i,i<n→s.testBit i=true→∀j,(bs.getD i 0).testBit j=true→s.testBit j=true:=by
 unfold ri
 rw [List.all_eq_true]
 constructor
 ·intro h i hi hb
  have:=h i (mem_range.2 hi)
  rw [hb,Bool.not_true,Bool.false_or,pa] at this
  exact this
 ·intro h i hi
  rw [mem_range] at hi
  cases hb:s.testBit i with
  | false=>rfl
  | true=>rw [Bool.not_true,Bool.false_or,pa];exact h i hi hb
structure fq (bs:List Nat) (n d m:Nat):Prop where
 lt:m<2^n
 ne:m≠0
 apart:d &&& m=0
 cl:ri bs n (d ||| m)=true
def lS (js:List (Int×Int)) (s:Nat):Int:=mA (fP js) s 10
def wS (js:List (Int×Int)) (s:Nat):Int:=mA (jH js) s 10
def nO (bs:List Nat) (js:List (Int×Int)) (n d m:Nat):Prop:=fq bs n d m∧∀x,fq bs n d x→wS js x*lS js m≤wS js m*lS js x
def q9 (bs:List Nat) (js:List (Int×Int)) (n d b:Nat):Prop:=nO bs js n d b∧∀m,nO bs js n d m→jF m b=true
theorem aDO {a b:Nat} (h:jF a b=true) (k:jF b a=true):a=b:=by
 rw [pa] at h k
 apply eq_of_testBit_eq
 intro i
 cases ha:a.testBit i with
 | true=>rw [h i ha]
 | false=>
  cases hb:b.testBit i with
  | true=>rw [k i hb] at ha;cases ha
  | false=>rfl
theorem q9.uniq {bs:List Nat} {js:List (Int×Int)} {n d a b:Nat} (h:q9 bs js n d a) (k:q9 bs js n d b):a=b:=aDO (k.2 a h.1) (h.2 b k.1)
structure pf (js:List (Int×Int)) (n:Nat):Prop where
 l0:∀i,0≤fP js i
 l1:∀i,i<n→1≤fP js i
 w0:∀i,0≤jH js i
theorem Og {s:Nat} (h:s≠0):∃i,s.testBit i=true:=Nat.exists_testBit_of_ne_zero h
theorem AN {s n i:Nat} (hs:s<2^n) (hb:s.testBit i=true):i<n:=by
 apply byContradiction
 intro cK
 rw [Nat.testBit_lt_two_pow (lt_of_lt_of_le hs (pow_le_pow_right (by decide) (by omega)))] at hb
 cases hb
theorem vP {js:List (Int×Int)} {n s:Nat} (h:pf js n) (hn:n≤10) (hs:s<2^n) (h0:s≠0):1≤lS js s:=by
 obtain ⟨i,hi⟩:=Og h0
 have iS:=AN hs hi
 exact alO h.l0 hi (h.l1 i iS) (by omega)
theorem apU {d a b:Nat} (ha:d &&& a=0) (hb:d &&& b=0):d &&& (a ||| b)=0:=by
 rw [Yh] at ha hb⊢
 intro j hj
 rw [testBit_or,ha j hj,hb j hj];rfl
theorem fq.or {bs:List Nat} {n d a b:Nat} (ha:fq bs n d a) (hb:fq bs n d b):fq bs n d (a ||| b):=by
 refine ⟨Nat.or_lt_two_pow ha.lt hb.lt,?_,apU ha.apart hb.apart,?_⟩
 ·intro h
  have h1:a≤a ||| b:=Nat.left_le_or
  have:=ha.ne
  omega
 ·have h1:=wL.1 ha.cl
  have h2:=wL.1 hb.cl
  refine wL.2 fun i hi Be j hj=>?_
  rw [testBit_or,testBit_or] at Be⊢
  by_cases hx:(d ||| a).testBit i=true
  ·have:=h1 i hi hx j hj
   rw [testBit_or] at this
   cases hd:d.testBit j <;> cases hA:a.testBit j <;> cases hB:b.testBit j <;> simp_all
  ·have bR:(d ||| b).testBit i=true:=by
    rw [testBit_or] at hx⊢
    cases hd:d.testBit i <;> cases hA:a.testBit i <;> cases hB:b.testBit i <;> simp_all
   have:=h2 i hi bR j hj
   rw [testBit_or] at this
   cases hd:d.testBit j <;> cases hA:a.testBit j <;> cases hB:b.testBit j <;> simp_all
theorem fq.and {bs:List Nat} {n d a b:Nat} (ha:fq bs n d a) (hb:fq bs n d b) (h0:a &&& b≠0):fq bs n d (a &&& b):=by
 refine ⟨Nat.and_lt_two_pow _ hb.lt,h0,?_,?_⟩
 ·have h1:=ha.apart
  rw [Yh] at h1⊢
  intro j hj
  rw [testBit_and,h1 j hj];rfl
 ·have h1:=wL.1 ha.cl
  have h2:=wL.1 hb.cl
  refine wL.2 fun i hi Be j hj=>?_
  rw [testBit_or,testBit_and] at Be⊢
  have q1:(d ||| a).testBit i=true:=by
   rw [testBit_or]
   cases hd:d.testBit i <;> cases hA:a.testBit i <;> cases hB:b.testBit i <;> simp_all
  have q2:(d ||| b).testBit i=true:=by
   rw [testBit_or]
   cases hd:d.testBit i <;> cases hA:a.testBit i <;> cases hB:b.testBit i <;> simp_all
  have r1:=h1 i hi q1 j hj
  have r2:=h2 i hi q2 j hj
  rw [testBit_or] at r1 r2
  cases hd:d.testBit j <;> cases hA:a.testBit j <;> cases hB:b.testBit j <;> simp_all
section
variable {bs : List Nat} {js : List (Int × Int)} {n d : Nat}
theorem Pk {w1 l1 w2 l2 w3 l3:Int} (p1:1≤l1) (p2:1≤l2) (p3:1≤l3) (h:w1*l2≤w2*l1) (k:w2*l3≤w3*l2):w1*l3≤w3*l1:=by
 have h1:w1*l2*l3≤w2*l1*l3:=Int.mul_le_mul_of_nonneg_right h (by omega)
 have h2:w2*l3*l1≤w3*l2*l1:=Int.mul_le_mul_of_nonneg_right k (by omega)
 have e1:w2*l1*l3=w2*l3*l1:=by rw [mul_assoc,Int.mul_comm l1 l3,←mul_assoc]
 have e2:w1*l2*l3=w1*l3*l2:=by rw [mul_assoc,Int.mul_comm l2 l3,←mul_assoc]
 have e3:w3*l2*l1=w3*l1*l2:=by rw [mul_assoc,Int.mul_comm l2 l1,←mul_assoc]
 have h3:w1*l3*l2≤w3*l1*l2:=by omega
 exact Int.le_of_mul_le_mul_right h3 (by omega)
theorem nO.auP {a b:Nat} (ha:nO bs js n d a) (hb:nO bs js n d b):wS js a*lS js b=wS js b*lS js a:=
 Int.le_antisymm (hb.2 a ha.1) (ha.2 b hb.1)
theorem nO.same (P:pf js n) (hn:n≤10) {a b:Nat} (ha:nO bs js n d a) (hb:fq bs n d b) (h:wS js a*lS js b≤wS js b*lS js a):nO bs js n d b:=by
 refine ⟨hb,fun x hx=>?_⟩
 exact Pk (vP P hn hx.lt hx.ne) (vP P hn ha.1.lt ha.1.ne) (vP P hn hb.lt hb.ne) (ha.2 x hx) h
theorem nO.or (P:pf js n) (hn:n≤10) {a b:Nat} (ha:nO bs js n d a) (hb:nO bs js n d b):nO bs js n d (a ||| b):=by
 refine ha.same P hn (ha.1.or hb.1) ?_
 have ew:=U5 (jH js) a b 10
 have el:=U5 (fP js) a b 10
 have e:=ha.auP hb
 have hand:wS js (a &&& b)*lS js a≤wS js a*lS js (a &&& b):=by
  by_cases h0:a &&& b=0
  ·rw [h0]
   have:wS js 0=0:=U6 _ _
   have e2:lS js 0=0:=U6 _ _
   rw [this,e2];simp
  ·exact ha.2 _ (ha.1.and hb.1 h0)
 have e1:wS js (a ||| b)=wS js a+wS js b-wS js (a &&& b):=by unfold wS;omega
 have e2:lS js (a ||| b)=lS js a+lS js b-lS js (a &&& b):=by unfold lS;omega
 rw [e1,e2,Int.mul_sub,Int.mul_add,Int.sub_mul,Int.add_mul]
 omega
theorem auU (P:pf js n) (hn:n≤10) {m:Nat} (hm:fq bs n d m):∃a,nO bs js n d a:=by
 have key:∀k,(∃a,a<k∧fq bs n d a)→∃a,a<k∧fq bs n d a∧∀x,x<k→fq bs n d x→wS js x*lS js a≤wS js a*lS js x:=by
  intro k
  induction k with
  | zero=>rintro ⟨a,h,_⟩;omega
  | succ k ih=>
   rintro ⟨a,ha,hr⟩
   by_cases sL:∃a,a<k∧fq bs n d a
   ·obtain ⟨b,hb,qA,lI⟩:=ih sL
    by_cases hk:fq bs n d k∧wS js b*lS js k<wS js k*lS js b
    ·refine ⟨k,by omega,hk.1,fun x hx xj=>?_⟩
     by_cases Ed:x=k
     ·subst Ed;exact Int.le_refl _
     ·exact Pk (vP P hn xj.lt xj.ne) (vP P hn qA.lt qA.ne) (vP P hn hk.1.lt hk.1.ne) (lI x (by omega) xj) (Int.le_of_lt hk.2)
    ·refine ⟨b,by omega,qA,fun x hx xj=>?_⟩
     by_cases Ed:x=k
     ·subst Ed
      apply byContradiction
      intro hc
      exact hk ⟨xj,by omega⟩
     ·exact lI x (by omega) xj
   ·have hak:a=k:=by
     apply byContradiction
     intro bp
     exact sL ⟨a,by omega,hr⟩
    subst hak
    refine ⟨a,by omega,hr,fun x hx xj=>?_⟩
    by_cases Ed:x=a
    ·subst Ed;exact Int.le_refl _
    ·exact absurd ⟨x,by omega,xj⟩ sL
 obtain ⟨a,_,hr,lI⟩:=key (2^n) ⟨m,hm.lt,hm⟩
 exact ⟨a,hr,fun x hx=>lI x hx.lt hx⟩
structure jf (bs:List Nat) (js:List (Int×Int)) (n d:Nat) (Sn:Nat→Prop) (bf:Nat):Prop where
 rel:bf≠0→fq bs n d bf
 none:bf=0→∀m,Sn m→¬fq bs n d m
 max:∀m,Sn m→nO bs js n d m→nO bs js n d bf∧jF m bf=true
theorem jf.skip {Sn:Nat→Prop} {bf m:Nat} (h:jf bs js n d Sn bf) (hm:¬fq bs n d m):jf bs js n d (fun x=>Sn x∨x=m) bf:=by
 refine ⟨h.rel,fun hb x hx=>?_,fun x hx lI=>?_⟩
 ·rcases hx with hx | rfl
  ·exact h.none hb x hx
  ·exact hm
 ·rcases hx with hx | rfl
  ·exact h.max x hx lI
  ·exact absurd lI.1 hm
theorem aDR (a:Nat):jF a a=true:=pa.2 fun _ h=>h
theorem aDP (a b:Nat):jF a (a ||| b)=true:=pa.2 fun _ h=>by rw [testBit_or,h];rfl
theorem aDQ (a b:Nat):jF b (a ||| b)=true:=pa.2 fun _ h=>by rw [testBit_or,h];simp
theorem aDS {a b c:Nat} (h:jF a b=true) (k:jF b c=true):jF a c=true:=by
 rw [pa] at h k⊢
 exact fun i hi=>k i (h i hi)
theorem jf.take (_:pf js n) (_:n≤10) {Sn:Nat→Prop} {bf m:Nat} (h:jf bs js n d Sn bf) (hm:fq bs n d m) (hb:bf=0∨wS js bf*lS js m<wS js m*lS js bf):jf bs js n d (fun x=>Sn x∨x=m) m:=by
 refine ⟨fun _=>hm,fun h0=>absurd h0 hm.ne,fun x hx lI=>?_⟩
 rcases hx with hx | rfl
 ·exfalso
  rcases hb with hb | hb
  ·exact h.none hb x hx lI.1
  ·have:=(h.max x hx lI).1.2 m hm
   omega
 ·exact ⟨lI,aDR _⟩
theorem jf.join (P:pf js n) (hn:n≤10) {Sn:Nat→Prop} {bf m:Nat} (h:jf bs js n d Sn bf) (hm:fq bs n d m) (h0:bf≠0) (hb:wS js bf*lS js m=wS js m*lS js bf):jf bs js n d (fun x=>Sn x∨x=m) (bf ||| m):=by
 have hr:=(h.rel h0).or hm
 refine ⟨fun _=>hr,fun h1=>absurd h1 hr.ne,fun x hx lI=>?_⟩
 rcases hx with hx | rfl
 ·obtain ⟨q1,q2⟩:=h.max x hx lI
  exact ⟨q1.or P hn (q1.same P hn hm (Int.le_of_eq hb)),aDS q2 (aDP _ _)⟩
 ·have q1:=lI.same P hn (h.rel h0) (Int.le_of_eq hb.symm)
  exact ⟨q1.or P hn lI,aDQ _ _⟩
theorem jf.pass (_:pf js n) (_:n≤10) {Sn:Nat→Prop} {bf m:Nat} (h:jf bs js n d Sn bf) (hm:fq bs n d m) (h0:bf≠0) (hb:wS js m*lS js bf<wS js bf*lS js m):jf bs js n d (fun x=>Sn x∨x=m) bf:=by
 refine ⟨h.rel,fun h1=>absurd h1 h0,fun x hx lI=>?_⟩
 rcases hx with hx | rfl
 ·exact h.max x hx lI
 ·have:=lI.2 bf (h.rel h0)
  omega
theorem jf.all (P:pf js n) (hn:n≤10) {Sn:Nat→Prop} {bf m:Nat} (h:jf bs js n d Sn bf) (fJ:∀x,fq bs n d x→Sn x) (hm:fq bs n d m):q9 bs js n d bf:=by
 obtain ⟨a,ha⟩:=auU P hn hm
 exact ⟨(h.max a (fJ a ha.1) ha).1,fun x hx=>(h.max x (fJ x hx.1) hx).2⟩
end
end
section
def lZ (bs:List Nat) (js:List (Int×Int)) (n:Nat):Nat→List Nat→Prop
 | d,[]=>d=cJ n
 | d,b::l=>q9 bs js n d b∧lZ bs js n (d ||| b) l
theorem fq.Sw {bs:List Nat} {n m:Nat}:¬fq bs n (cJ n) m:=by
 intro h
 obtain ⟨i,hi⟩:=Og h.ne
 have iS:=AN h.lt hi
 have:(cJ n &&& m).testBit i=true:=by rw [testBit_and,wT,hi];simp [iS]
 rw [h.apart] at this
 simp at this
theorem lZ.uniq {bs:List Nat} {js:List (Int×Int)} {n:Nat}:∀{l l':List Nat} {d:Nat},lZ bs js n d l→lZ bs js n d l'→l=l'
 | [],[],_,_,_=>rfl
 | [],b::l',d,h,k=>by
  have h':d=cJ n:=h
  subst h'
  exact absurd k.1.1.1 fq.Sw
 | b::l,[],d,h,k=>by
  have k':d=cJ n:=k
  subst k'
  exact absurd h.1.1.1 fq.Sw
 | b::l,b'::l',d,h,k=>by
  have e:=h.1.uniq k.1
  subst e
  rw [lZ.uniq h.2 k.2]
theorem jf.congr {bs:List Nat} {js:List (Int×Int)} {n d:Nat} {Sn X1:Nat→Prop} {bf:Nat} (h:jf bs js n d Sn bf) (e:∀x,X1 x→Sn x):jf bs js n d X1 bf:=
 ⟨h.rel,fun hb m hm=>h.none hb m (e m hm),fun m hm=>h.max m (e m hm)⟩
theorem jf.start (bs:List Nat) (js:List (Int×Int)) (n d:Nat) {Sn:Nat→Prop} (h:∀x,¬Sn x):jf bs js n d Sn 0:=
 ⟨fun h0=>absurd rfl h0,fun _ m hm=>absurd hm (h m),fun m hm=>absurd hm (h m)⟩
theorem jf.ex {bs:List Nat} {js:List (Int×Int)} {n d:Nat} (P:pf js n) (hn:n≤10):∀L:List Nat,∃bf,jf bs js n d (fun x=>x∈L) bf
 | []=>⟨0,.start _ _ _ _ fun x hx=>by simp at hx⟩
 | m::L=>by
  obtain ⟨bf,h⟩:=jf.ex P hn L
  have key:∀{b:Nat},jf bs js n d (fun x=>x∈L∨x=m) b→∃bf,jf bs js n d (fun x=>x∈m::L) bf:=
   fun {b} q=>⟨b,q.congr fun x hx=>by rcases mem_cons.1 hx with h | h;exact .inr h;exact .inl h⟩
  by_cases hm:fq bs n d m
  ·by_cases h0:bf=0
   ·exact key (h.take P hn hm (.inl h0))
   ·by_cases c1:wS js bf*lS js m<wS js m*lS js bf
    ·exact key (h.take P hn hm (.inr c1))
    ·by_cases c2:wS js bf*lS js m=wS js m*lS js bf
     ·exact key (h.join P hn hm h0 c2)
     ·exact key (h.pass P hn hm h0 (by omega))
  ·exact key (h.skip hm)
theorem atv {bs:List Nat} {n:Nat} (hb:∀b∈bs,b<2^n):ri bs n (cJ n)=true:=by
 rw [wL]
 intro i hi _ j hj
 rw [wT]
 have:bs.getD i 0<2^n:=by
  by_cases h:i<bs.length
  ·have e:bs.getD i 0=bs[i]:=by simp [getD_eq_getElem?_getD,h]
   rw [e];exact hb _ (getElem_mem h)
  ·have e:bs.getD i 0=0:=by simp only [getD_eq_getElem?_getD];rw [List.getElem?_eq_none (by omega)];rfl
   rw [e];exact Nat.pow_pos (by decide)
 exact a9 (AN this hj)
theorem ahB {d s:Nat} (h:s &&& d=d):d ||| nV s d=s:=by
 apply eq_of_testBit_eq
 intro i
 have:=congrArg (Nat.testBit · i) h
 simp only [testBit_and] at this
 rw [testBit_or,AV]
 cases hs:s.testBit i <;> cases hd:d.testBit i <;> simp_all
theorem alo {bs:List Nat} {n d s:Nat} (hs:s<2^n) (hc:ri bs n s=true) (h:s &&& d=d) (bp:s≠d):fq bs n d (nV s d):=by
 refine ⟨Nat.lt_of_le_of_lt (abW _ _) hs,fun h0=>?_,?_,by rw [ahB h];exact hc⟩
 ·apply bp
  have e:=ahB h
  rw [h0,Nat.or_zero] at e
  exact e.symm
 ·apply eq_of_testBit_eq
  intro i
  rw [testBit_and,AV]
  cases d.testBit i <;> simp
theorem ahu {bs:List Nat} {n d m:Nat} (hd:d<2^n) (h:fq bs n d m):(d ||| m<2^n∧ri bs n (d ||| m)=true)∧((d ||| m) &&& d=d∧d ||| m≠d)∧m=nV (d ||| m) d:=by
 have hb:∀i,m.testBit i=true→d.testBit i=false:=fun i hi=>by
  cases nz:d.testBit i with
  | false=>rfl
  | true=>
   have:(d &&& m).testBit i=true:=by rw [testBit_and,hi,nz];rfl
   rw [h.apart] at this
   simp at this
 refine ⟨⟨Nat.or_lt_two_pow hd h.lt,h.cl⟩,⟨?_,fun he=>?_⟩,?_⟩
 ·apply eq_of_testBit_eq
  intro i
  rw [testBit_and,testBit_or]
  cases d.testBit i <;> simp
 ·obtain ⟨i,hi⟩:=Og h.ne
  have h2:(d ||| m).testBit i=true:=by rw [testBit_or,hi];simp
  rw [he,hb i hi] at h2
  cases h2
 ·apply eq_of_testBit_eq
  intro i
  rw [AV,testBit_or]
  cases hi:m.testBit i with
  | true=>rw [hb i hi];rfl
  | false=>cases d.testBit i <;> rfl
theorem aln {bs:List Nat} {n d:Nat} (hb:∀b∈bs,b<2^n) (hd:d<cJ n):fq bs n d (nV (cJ n) d):=by
 have hf:cJ n<2^n:=acy n
 refine alo hf (atv hb) ?_ (by omega)
 apply eq_of_testBit_eq
 intro i
 rw [testBit_and,wT]
 cases hi:d.testBit i with
 | false=>simp
 | true=>
  have:=AN (Nat.lt_trans hd hf) hi
  simp [this]
theorem q9.ex {bs:List Nat} {js:List (Int×Int)} {n d:Nat} (P:pf js n) (hn:n≤10) (hb:∀b∈bs,b<2^n) (hd:d<cJ n):∃b,q9 bs js n d b:=by
 obtain ⟨bf,h⟩:=jf.ex (bs:=bs) (d:=d) P hn (List.range (2^n))
 exact ⟨bf,h.all P hn (fun x hx=>mem_range.2 hx.lt) (aln hb hd)⟩
theorem q9.step {bs:List Nat} {js:List (Int×Int)} {n d b:Nat} (hd:d<2^n) (h:q9 bs js n d b):d<d ||| b∧d ||| b<2^n∧b<2^n:=by
 obtain ⟨⟨h1,_⟩,⟨h2,h3⟩,_⟩:=ahu hd h.1.1
 have hle:d≤d ||| b:=Nat.left_le_or
 exact ⟨by omega,h1,h.1.1.lt⟩
theorem lZ.ex {bs:List Nat} {js:List (Int×Int)} {n:Nat} (P:pf js n) (hn:n≤10) (hb:∀b∈bs,b<2^n):∀(k d:Nat),d<2^n→cJ n-d≤k→∃l,lZ bs js n d l
 | 0,d,hd,h=>⟨[],by show d=cJ n;unfold cJ at*;omega⟩
 | k+1,d,hd,h=>by
  by_cases e:d=cJ n
  ·exact ⟨[],e⟩
  ·obtain ⟨b,hs⟩:=q9.ex (bs:=bs) (js:=js) P hn hb (show d<cJ n by unfold cJ at*;omega)
   obtain ⟨h1,h2,h3⟩:=hs.step hd
   obtain ⟨l,hl⟩:=lZ.ex P hn hb k (d ||| b) h2 (by omega)
   exact ⟨b::l,hs,hl⟩
theorem lZ.lt {bs:List Nat} {js:List (Int×Int)} {n:Nat}:∀{l:List Nat} {d:Nat},d<2^n→lZ bs js n d l→∀b∈l,b<2^n
 | [],_,_,_,b,hb=>by simp at hb
 | c::l,d,hd,h,b,hb=>by
  obtain ⟨h1,h2,h3⟩:=h.1.step hd
  rcases mem_cons.1 hb with rfl | hb
  ·exact h3
  ·exact lZ.lt h2 h.2 b hb
def jL (bs:List Nat) (n k:Nat):List Nat:=(List.range k).filter (ri bs n)
theorem amV (bs:List Nat) (n k:Nat):jL bs n (k+1)=if ri bs n k=true then jL bs n k++[k] else jL bs n k:=by
 unfold jL
 rw [List.range_succ,List.filter_append]
 by_cases h:ri bs n k=true
 ·rw [if_pos h];simp [h]
 ·rw [if_neg h];simp [h]
theorem Lw {bs:List Nat} {n k s:Nat} (h:s∈jL bs n k):s<k∧ri bs n s=true:=by
 have:=mem_filter.1 h
 exact ⟨mem_range.1 this.1,this.2⟩
theorem amU {bs:List Nat} {n k s:Nat} (h1:s<k) (h2:ri bs n s=true):s∈jL bs n k:=mem_filter.2 ⟨mem_range.2 h1,h2⟩
def eZ (k:IntKind) (l:List Nat):List (Nat×Value×Value):=l.map fun s=>(s,.int k (s:Int),B true)
theorem P6 (k:IntKind) (a b:Nat):mN (.int k (a:Int)) (.int k (b:Int))=decide (a=b):=by
 simp only [mN,xv,decide_true,Bool.true_and]
 by_cases h:a=b
 ·rw [a9 h,a9 (by omega)]
 ·rw [aU h,aU (by omega)]
theorem Ua (k:IntKind) (s:Nat):∀{l:List Nat},s∉l→lQ (.int k (s:Int)) (eZ k l)=none
 | [],_=>rfl
 | a::l,h=>by
  have h1:s≠a:=fun e=>h (by simp [e])
  have h2:s∉l:=fun e=>h (by simp [e])
  have ih:=Ua k s h2
  show (if mN (.int k (s:Int)) (.int k (a:Int))=true then some 0 else (lQ (.int k (s:Int)) (eZ k l)).map (·+1))=none
  rw [P6,aU h1,ih]
  rfl
theorem akk (k:IntKind) (s:Nat):∀{l:List Nat},s∉l→lQ (.int k (s:Int)) (eZ k (l++[s]))=some l.length
 | [],_=>by
  show (if mN (.int k (s:Int)) (.int k (s:Int))=true then some 0 else _)=_
  rw [P6];simp
 | a::l,h=>by
  have h1:s≠a:=fun e=>h (by simp [e])
  have h2:s∉l:=fun e=>h (by simp [e])
  have ih:=akk k s h2
  show (if mN (.int k (s:Int)) (.int k (a:Int))=true then some 0 else (lQ (.int k (s:Int)) (eZ k (l++[s]))).map (·+1))=_
  rw [P6,aU h1,ih]
  rfl
theorem afh (k:IntKind) (l m:List Nat):eZ k (l++m)=eZ k l++eZ k m:=by simp [eZ]
theorem afi (k:IntKind) (l:List Nat):(eZ k l).length=l.length:=by simp [eZ]
theorem alI (k:IntKind) {s:Nat} {l:List Nat} (h:s∉l):lR s (.int k (s:Int)) (B true) (eZ k l)=eZ k (l++[s])∧oK s (.int k (s:Int)) (eZ k l)=s+1:=by
 unfold lR oK
 rw [Ua k s h,afh]
 exact ⟨rfl,rfl⟩
theorem auQ (k:IntKind) {s:Nat} {l:List Nat} (h:s∉l):rj (.int k (s:Int)) (eZ k (l++[s]))=eZ k l:=by
 unfold rj
 rw [akk k s h]
 simp only
 rw [afh,List.eraseIdx_append_of_length_le (by rw [afi];exact le_refl _),afi]
 simp [eZ]
theorem auR (k:IntKind) {s:Nat} {l:List Nat} (h:s∉l):rj (.int k (s:Int)) (eZ k l)=eZ k l:=by
 unfold rj
 rw [Ua k s h]
theorem acr (k:IntKind) (s:Nat):∀{l:List Nat},s∈l→(eZ k l).find? (fun e=>e.1==s)=some (s,.int k (s:Int),B true)
 | a::l,h=>by
  by_cases e:a=s
  ·subst e;simp [eZ]
  ·have h2:s∈l:=by rcases mem_cons.1 h with h | h;exact absurd h.symm e;exact h
   have ih:=acr k s h2
   have e2:(a==s)=false:=by simpa using e
   rw [show eZ k (a::l)=(a,.int k (a:Int),B true)::eZ k l from rfl,List.find?_cons]
   simp only [e2]
   exact ih
theorem ayF {h:ae} {im it c:Nat} {k:IntKind} {l seen:List Nat} (hm:h[im]?=some (.cR (.int k) c (eZ k l))) (hi:h[it]?=some (.iter im c seen c)) (hl:∀s∈l,s<c):
  zR h (pt it 0)=some ((if (l.filter fun s=> !seen.contains s).isEmpty=true then [(.tuple #[.bool false],h)] else [])++
   (l.filter fun s=> !seen.contains s).map fun s=>(.tuple #[.bool true,.int k (s:Int),B true],h.set it (.iter im c (seen++[s]) c))):=by
 have e1:(eZ k l).filter (fun e=> !seen.contains e.1)=eZ k (l.filter fun s=> !seen.contains s):=by
  unfold eZ
  rw [List.filter_map]
  rfl
 have pH:∀s∈l.filter (fun s=> !seen.contains s),s<c:=fun s hs=>hl s (mem_filter.1 hs).1
 have e2:∀l':List Nat,(∀s∈l',s<c)→(eZ k l').filter (fun e=>decide (e.1<c))=eZ k l'∧(eZ k l').filter (fun e=>decide (c≤e.1))=[]:=by
  intro l' lH
  refine ⟨List.filter_eq_self.2 ?_,List.filter_eq_nil_iff.2 ?_⟩
  ·intro x hx
   obtain ⟨s,hs,rfl⟩:=mem_map.1 hx
   exact a9 (lH s hs)
  ·intro x hx
   obtain ⟨s,hs,rfl⟩:=mem_map.1 hx
   have:=lH s hs
   simp only [decide_eq_true_eq]
   omega
 have e3:(!seen.isEmpty&& !(eZ k l).isEmpty&&(eZ k l).all fun e=>decide (c≤e.1))=false:=by
  cases l with
  | nil=>simp [eZ]
  | cons a l=>
   have:=hl a (by simp)
   have:decide (c≤a)=false:=aU (by omega)
   simp [eZ,this]
 simp only [zR,pt,hi,hm,e3,false_eq_true,if_false,e1,(e2 _ pH).1,(e2 _ pH).2,List.append_nil]
 congr 2
 ·cases h1:l.filter (fun s=> !seen.contains s) <;> rfl
 ·unfold eZ
  rw [List.map_map]
  rfl
end
end Go.Sim
namespace Go.Proofs.YtelmdbpaoifmoaaGreat
open Go.Sim
section
theorem pV.pos {js:List (Int×Int)} {n:Nat} (h:pV js) (hn:js.length=n):pf js n:=
 ⟨fun i=>(h.all i).1.1,fun i hi=>by unfold fP;exact (h.getD (by omega)).1.1,fun i=>(h.all i).2.1⟩
theorem Sa (s:Nat):∀n,cN s n=nE s n
 | 0=>rfl
 | n+1=>by simp only [cN,nE,Sa s n]
theorem alR (js:List (Int×Int)) (s:Nat):wg js (cN s 10)=lS js s:=by
 rw [Sa];exact KQ (fP js) s 10
theorem alV (js:List (Int×Int)) (s:Nat):wh js (cN s 10)=wS js s:=by
 rw [Sa];exact KQ (jH js) s 10
theorem aeS {js:List (Int×Int)} (h:pV js) (s:Nat):0≤lS js s∧lS js s≤500:=
 ⟨KR (fun i=>(h.all i).1.1) s 10,U4 (c:=50) (fun i=>(h.all i).1) s 10⟩
theorem al8 {js:List (Int×Int)} (h:pV js) (s:Nat):0≤wS js s∧wS js s≤500:=
 ⟨KR (fun i=>(h.all i).2.1) s 10,U4 (c:=50) (fun i=>(h.all i).2) s 10⟩
theorem afF {a b:Int} (ha:0≤a∧a≤500) (hb:0≤b∧b≤500):0≤a*b∧a*b≤250000:=by
 have h1:0≤a*b:=Int.mul_nonneg ha.1 hb.1
 have h2:a*b≤500*500:=Int.mul_le_mul ha.2 hb.2 hb.1 (by omega)
 omega
theorem abN {s:Nat} (hs:s<32768):dh .u16 (I s)=some (U s):=by
 rw [jN,um.wrap (by omega) (by omega)]
theorem atw {bs:List Nat} {n s:Nat} (hn:n≤10) (hs:s<2^n):ri bs n s=(cN s 10).all fun i=>jF (bs.getD i 0) s:=by
 rw [Bool.eq_iff_iff,wL,List.all_eq_true]
 constructor
 ·intro h i hi
  have h2:=(BO s 10 i hi).2
  rw [pa]
  exact h i (AN hs h2) h2
 ·intro h i hi hb
  have hm:i∈cN s 10:=by
   have key:∀m,i<m→i∈cN s m:=by
    intro m
    induction m with
    | zero=>intro h;omega
    | succ m ih=>
     intro eR
     simp only [cN]
     by_cases e:i=m
     ·subst e;rw [hb];simp
     ·have:=ih (by omega)
      split
      ·exact List.mem_append_left _ this
      ·exact this
   exact key 10 (by omega)
  exact pa.1 (h i hm)
theorem N2 (a b:Nat):decide ((a:Int)=(b:Int))=decide (a=b):=by
 rw [decide_eq_decide];omega
theorem aEc {g:ae} {im:Nat} {s:Nat} {l:List Nat} (hg:g[im]?=some (.cR (.int .u16) s (eZ .u16 l))) (hs:s∉l):BU (.int .u16) g (.map (some im)) (U s) (.bool true)=some (undef,g.set im (.cR (.int .u16) (s+1) (eZ .u16 (l++[s])))):=by
 have h1:fc (.int .u16) (U s)=true:=rfl
 simp only [BU,BF,hg]
 rw [if_pos (by simp [h1,iA]),(alI .u16 hs).1,(alI .u16 hs).2]
 rfl
theorem Dj {g:ae} {im c:Nat} {s:Nat} {es:List (Nat×Value×Value)} (hg:g[im]?=some (.cR (.int .u16) c es)):Sy (.int .u16) g (.map (some im)) (U s)=some (.tuple #[],g.set im (.cR (.int .u16) c (rj (U s) es))):=by
 have h1:fc (.int .u16) (U s)=true:=rfl
 simp only [Sy,Ef,hg]
 rw [if_pos (by simp [h1])]
 rfl
def CN (d:Nat) (seen:List Nat) (m:Nat):Prop:=∃s∈seen,(s &&& d=d∧s≠d)∧m=nV s d
theorem C73 {p:Value} {js:List (Int×Int)} {bs os:List Nat} {n:Nat} {h:ae} {K:Value→ae→Prop} (hp:PL h p js bs) (hn:js.length=n) (h1:1≤n) (sA:n≤10) (rE:pV js) (It:bs.length=n) (hb:∀b∈bs,b<2^n)
  (iH:lZ bs js n 0 os) (hk:K (sl 131 h.length 0 os.length) (h++[.arr 131 (os.map fun b:Nat=>U b)])):aj prog 73 [p] h K:=by
 have plain:vW (.arr 131 (os.map fun b:Nat=>U b))=true:=by
  simp only [vW,List.all_map,List.all_eq_true]
  intro x _;rfl
 refine atm (V:=fun i=>sl 131 i 0 os.length) (o:=.arr 131 (os.map fun b:Nat=>U b)) (oI.sl 131 0 os.length) plain (f73 ?_) hk
 have h2n:(2:Nat)^n≤2^10:=pow_le_pow_right (by decide) sA
 have two:2≤2^n:=by have:=pow_le_pow_right (show 0<2 by decide) h1;simpa using this
 have avx:∀b∈bs,b<1024:=fun b h=>lt_of_lt_of_le (hb b h) h2n
 have hfs:cJ n+1=2^n:=by unfold cJ;omega
 have P:=rE.pos hn
 unfold NG
 simp only [BE,aC]
 have hp1:PL (h++[.cR (.int .u16) 0 []]) p js bs:=hp.mono (EX.append _ _)
 refine Wj hp1 (by omega) ?_
 rw [hn,acz]
 have wf:IntKind.wrap .i64 ((cJ n:Nat):Int)=((cJ n:Nat):Int):=wrap64 (by omega) (by omega)
 simp only [jN,wf,ah,cQ,fA (cJ n) (by omega),hfs]
 -- gR aFt aFw can atB first
 refine dL (σ:=Nat×ae) (fun q=>[I q.1]) (fun q=>q.2) (fun q=>q.1≤2^n∧EX h q.2∧q.2[h.length]?=some (.cR (.int .u16) q.1 (eZ .u16 (jL bs n q.1)))) (fun q=>2^n-q.1) (0,_) rfl rfl
  ⟨zero_le _,EX.append _ _,by simp [jL,eZ]⟩ ?_
 rintro ⟨s,g⟩ ⟨hs,xg,hm⟩ L hL
 simp only at hs xg hm hL⊢
 rw [aBZ]
 simp only [cW,ah,bX]
 refine ⟨fun aD=>?_,fun cK=>?_⟩
 ·have mS:s<2^n:=by omega
  have DV:s∉jL bs n s:=fun hx=>by have:=(Lw hx).1;omega
  simp only [abN (show s<32768 by omega),ah,aEc hm DV,aC]
  have xg1:EX h (g.set h.length (.cR (.int .u16) (s+1) (eZ .u16 (jL bs n s++[s])))):=xg.set (le_refl _) _
  have QN:(g.set h.length (.cR (.int .u16) (s+1) (eZ .u16 (jL bs n s++[s]))))[h.length]?=some (.cR (.int .u16) (s+1) (eZ .u16 (jL bs n s++[s]))):=cj hm
  generalize g.set h.length (.cR (.int .u16) (s+1) (eZ .u16 (jL bs n s++[s])))=g1 at xg1 QN⊢
  refine Lr (show s<1024 by omega) ?_
  intro v g2 ng yU
  have zH:bj v=some (I (cN s 10).length):=by have:=yU.len;rwa [length_map] at this
  have QK:=Eo s 10
  simp only [zH,ah]
  refine dL (σ:=Nat×ae) (fun q=>[I q.1]) (fun q=>q.2) (fun q=>q.1≤(cN s 10).length∧(CX g2 q.2∧EX h q.2)∧q.2[h.length]?=some (.cR (.int .u16) (s+1) (eZ .u16 (if ((cN s 10).take q.1).all (fun i=>jF (bs.getD i 0) s)=true then jL bs n s++[s] else jL bs n s))))
   (fun q=>(cN s 10).length-q.1) (0,g2) rfl rfl ⟨zero_le _,⟨CX.refl _,xg1.trans ng⟩,by simpa using ng.get QN⟩ ?_
  rintro ⟨k,g3⟩ ⟨QG,⟨qZ,Fv⟩,yR⟩ L2 hZ
  simp only at QG qZ Fv yR hZ⊢
  rw [aBQ]
  simp only [cW,ah,bX]
  refine ⟨fun adz=>?_,fun aE5=>?_⟩
  ·have gr:k<(cN s 10).length:=by omega
   obtain ⟨b,o,r1,r2⟩:=(NS.BR qZ yU).get k (by simpa using gr)
   have e:((cN s 10).map fun i:Nat=>(i:Int))[k]'(by simpa using gr)=((cN s 10)[k]:Int):=by simp
   rw [e] at r2
   have hi:=BO s 10 _ (getElem_mem gr)
   have iS:=AN mS hi.2
   obtain ⟨a,vj,vb,rfl,hc,hj,DH⟩:=hp.mono Fv
   have ld:af false 1 g3 (pt a 1)=some vb:=by simp [af,hc,cf]
   obtain ⟨b2,o2,t1,t2⟩:=NS.avj DH (i:=(cN s 10)[k]) (by omega)
   have Qe:bs.getD (cN s 10)[k] 0<1024:=by
    have e3:bs.getD (cN s 10)[k] 0=bs[(cN s 10)[k]]'(by omega):=by simp [getD_eq_getElem?_getD,show (cN s 10)[k]<bs.length by omega]
    rw [e3];exact avx _ (getElem_mem _)
   have apS:=Yg um Qe (show s<1024 by omega)
   simp only [r1,r2,ah,Jt,cn,Nat.zero_add,ld,t1,t2,abN (show s<32768 by omega),apS,rf]
   have ez:decide (((nV (bs.getD (cN s 10)[k] 0) s:Nat):Int)=0)=jF (bs.getD (cN s 10)[k] 0) s:=by
    cases hq:jF (bs.getD (cN s 10)[k] 0) s with
    | true=>exact a9 (by have:=abX.2 hq;omega)
    | false=>exact aU (by intro h0;have:=abX.1 (show nV (bs.getD (cN s 10)[k] 0) s=0 by omega);rw [hq] at this;cases this)
   rw [ez]
   have IY:((cN s 10).take (k+1)).all (fun i=>jF (bs.getD i 0) s)=(((cN s 10).take k).all (fun i=>jF (bs.getD i 0) s)&&jF (bs.getD (cN s 10)[k] 0) s):=by
    rw [List.take_succ_eq_append_getElem gr,List.all_append];simp
   refine At (fun hq=>?_) fun hq=>?_
   ·have gG:jF (bs.getD (cN s 10)[k] 0) s=false:=by simpa using hq
    simp only [Dj yR,aC]
    rw [ak7]
    simp only [cQ,ah,fA k (by omega),true_and]
    refine hZ (k+1,_) ⟨by show k+1≤_;omega,⟨qZ.trans (CX.lR yR),Fv.set (le_refl _) _⟩,?_⟩ (by show _-(k+1)<_-k;omega)
    rw [IY,gG,Bool.and_false]
    simp only [false_eq_true,if_false]
    rw [cj yR]
    split
    ·rw [auQ .u16 DV]
    ·rw [auR .u16 DV]
   ·have gG:jF (bs.getD (cN s 10)[k] 0) s=true:=by simpa using hq
    rw [ak7]
    simp only [cQ,ah,fA k (by omega),true_and]
    refine hZ (k+1,g3) ⟨by show k+1≤_;omega,⟨qZ,Fv⟩,?_⟩ (by show _-(k+1)<_-k;omega)
    rw [IY,gG,Bool.and_true]
    exact yR
  ·have sJ:k=(cN s 10).length:=by omega
   subst sJ
   rw [List.take_length,←atw sA mS,←amV] at yR
   rw [aBR]
   simp only [cQ,ah,fA s (by omega),true_and]
   exact hL (s+1,g3) ⟨by show s+1≤_;omega,Fv,yR⟩ (by show _-(s+1)<_-s;omega)
 ·have hse:s=2^n:=by omega
  subst hse
  rw [aBS]
  -- one set after gR other
  refine dL (σ:=Nat×List Nat×Value×ae) (fun q=>[q.2.2.1,U q.1]) (fun q=>q.2.2.2) (fun q=>q.1<2^n∧(∀r,lZ bs js n q.1 r→lZ bs js n 0 (q.2.1++r))∧q.2.1.length≤q.1∧
    (EX h q.2.2.2∧q.2.2.2[h.length]?=some (.cR (.int .u16) (2^n) (eZ .u16 (jL bs n (2^n)))))∧fE (h.length+1) q.2.2.2 131 q.2.2.1 (q.2.1.map fun b:Nat=>U b)) (fun q=>2^n-q.1)
   (0,[],.slice none 0 0,g) rfl rfl ⟨by show 0<2^n;omega,fun r hr=>hr,le_refl _,⟨xg,hm⟩,.inl ⟨rfl,rfl⟩⟩ ?_
  rintro ⟨d,out,vo,g2⟩ ⟨hd,Re,gO,⟨ng,vk⟩,own⟩ L1 hL1
  simp only at hd Re gO ng vk own hL1⊢
  rw [aBT]
  refine Wj (hp.mono ng) (by omega) ?_
  rw [hn,acz]
  simp only [rf,ah,N2]
  refine At (fun bp=>?_) fun heq=>?_
  ·have hdf:d<cJ n:=by simp at bp;omega
   have g2l:h.length<g2.length:=(bK vk).1
   have rg:BG g2 (.map (some h.length))=some (pt g2.length 0,g2++[.iter h.length (2^n) [] (2^n)]):=by
    simp only [BG,vk]
   simp only [rg,aC]
   have xi:EX g2 (g2++[.iter h.length (2^n) [] (2^n)]):=EX.append _ _
   have gi:(g2++[aq.iter h.length (2^n) [] (2^n)])[g2.length]?=some (.iter h.length (2^n) [] (2^n)):=by simp
   generalize g2++[aq.iter h.length (2^n) [] (2^n)]=g3 at xi gi⊢
   refine dL (σ:=Nat×List Nat×ae) (fun q=>[U q.1]) (fun q=>q.2.2) (fun q=>q.1<2^n∧(∀s∈q.2.1,s∈jL bs n (2^n))∧jf bs js n d (CN d q.2.1) q.1∧EX g2 q.2.2∧q.2.2[g2.length]?=some (.iter h.length (2^n) q.2.1 (2^n)))
    (fun q=>((jL bs n (2^n)).filter fun s=> !q.2.1.contains s).length) (0,[],g3) rfl rfl ⟨by show 0<2^n;omega,fun s hs=>by simp at hs,.start _ _ _ _ (fun x ⟨s,hs,_⟩=>by simp at hs),xi,gi⟩ ?_
   rintro ⟨bf,seen,g4⟩ ⟨yC,adY,xl,Cp,IE⟩ L2 hZ
   simp only at yC adY xl Cp IE hZ⊢
   rw [aBU]
   have hm4:=Cp.get vk
   rw [ayF hm4 IE (fun s hs=>(Lw hs).1),apP]
   intro pr yY
   rcases mem_append.1 yY with yY | yY
   ·-- all aEh seen
    split at yY
    ·rename_i avF
     have:pr=(.tuple #[.bool false],g4):=by simpa using yY
     subst this
     have x0:b9 0 (.tuple #[Value.bool false])=some (.bool false):=rfl
     simp only [x0,ah,dV]
     have fJ:∀x,fq bs n d x→CN d seen x:=by
      intro x hx
      obtain ⟨⟨c1,c2⟩,c3,c4⟩:=ahu hd hx
      refine ⟨d ||| x,?_,c3,c4⟩
      have hme:=amU c1 c2
      apply byContradiction
      intro yU
      have:(d ||| x)∈(jL bs n (2^n)).filter fun s=> !seen.contains s:=mem_filter.2 ⟨hme,by simpa using yU⟩
      rw [List.isEmpty_iff.1 avF] at this
      simp at this
     have hS:=xl.all P sA fJ (aln hb hdf)
     obtain ⟨s1,s2,s3⟩:=hS.step hd
     rw [aBX]
     have ahF:fE (h.length+1) g4 131 vo (out.map fun b:Nat=>U b):=own.dY fun d' n' hv ny=>by
      have:=(own.lt hv).2.1
      exact Cp.2 d' this
     have xh4:=ng.trans Cp
     refine Ge ahF (by simp;omega) (by simp [maxLen];omega) rfl rfl ?_
     intro w1 bR _ hlen kU jO
     simp only [aC,orK um (show d<1024 by omega) (show bf<1024 by omega),ah,true_and]
     have g4l:g2.length≤g4.length:=Cp.1
     have dY:∀d',d'<g4.length→d'<h.length+1→bR[d']?=g4[d']?:=fun d' ny eD=>kU d' ny fun n' hv=>by
      have:=(ahF.lt hv).1
      omega
     refine hL1 (d ||| bf,out++[bf],sl 131 (g4.length+1) 0 ((out.map fun b:Nat=>U b).length+1),bR) ⟨s2,?_,?_,⟨?_,?_⟩,?_⟩ (by show _-(d ||| bf)<_-d;omega)
     ·intro r hr
      have:=Re (bf::r) ⟨hS,hr⟩
      simpa using this
     ·show (out++[bf]).length≤d ||| bf
      simp;omega
     ·refine ⟨by have:=xh4.1;show h.length≤bR.length;omega,fun i hi=>?_⟩
      rw [dY i (by omega) (by omega)]
      exact xh4.2 i hi
     ·show bR[h.length]?=_
      rw [dY h.length (by omega) (by omega)]
      exact hm4
     ·refine .inr ⟨g4.length+1,by show h.length+1≤_;omega,?_,?_⟩
      ·show sl 131 (g4.length+1) 0 _=sl 131 (g4.length+1) 0 _
       simp
      ·show bR[g4.length+1]?=_
       rw [jO];simp
    ·simp at yY
   ·obtain ⟨s,BA,rfl⟩:=mem_map.1 yY
    obtain ⟨Rc,hsn⟩:=mem_filter.1 BA
    obtain ⟨awD,awz⟩:=Lw Rc
    have x0:b9 0 (.tuple #[Value.bool true,.int .u16 (s:Int),B true])=some (.bool true):=rfl
    simp only [x0,ah,dX]
    have nh:EX g2 (g4.set g2.length (.iter h.length (2^n) (seen++[s]) (2^n))):=Cp.set (le_refl _) _
    have P5:(g4.set g2.length (.iter h.length (2^n) (seen++[s]) (2^n)))[g2.length]?=some (.iter h.length (2^n) (seen++[s]) (2^n)):=cj IE
    generalize g4.set g2.length (.iter h.length (2^n) (seen++[s]) (2^n))=g5 at nh P5⊢
    have hm5:=nh.get vk
    have en:zp g5 (pt g2.length 0)=some (.tuple #[U s,B true]):=by
     simp only [zp,pt,P5,hm5,List.getLast?_append,List.getLast?_singleton,Option.some_or,if_true]
     rw [acr .u16 s Rc]
     rfl
    have awA:∀x∈seen++[s],x∈jL bs n (2^n):=by
     intro x hx
     rcases mem_append.1 hx with hx | hx
     ·exact adY x hx
     ·have:x=s:=by simpa using hx
      subst this;exact Rc
    have av6:((jL bs n (2^n)).filter fun x=> !(seen++[s]).contains x).length<((jL bs n (2^n)).filter fun x=> !seen.contains x).length:=by
     have e1:(jL bs n (2^n)).filter (fun x=> !(seen++[s]).contains x)=((jL bs n (2^n)).filter fun x=> !seen.contains x).filter fun x=> !decide (x=s):=by
      rw [List.filter_filter]
      congr 1
      funext x
      rw [List.contains_eq_any_beq,List.contains_eq_any_beq,List.any_append]
      by_cases pL:x=s
      ·subst pL;simp
      ·have:(s==x)=false:=by simpa using fun h=>pL h.symm
       simp [pL]
     rw [e1]
     exact List.length_filter_lt_length_iff_exists.2 ⟨s,BA,by simp⟩
    simp only [en,ah,eQ,ft,Yf um (show s<1024 by omega) (show d<1024 by omega),rf,N2]
    rw [aBV]
    have finish:∀(b':Nat) (g6:ae),b'<2^n→jf bs js n d (CN d (seen++[s])) b'→EX g5 g6→L2 [U b'] g6:=fun b' g6 kB awE x6=>
     hZ (b',seen++[s],g6) ⟨kB,awA,awE,nh.trans x6,x6.get P5⟩ av6
    by_cases c1:s &&& d=d
    rotate_left
    ·rw [aU c1]
     simp only [Bool.not_false,gn]
     rw [ak8]
     simp only [eW,ah,dX,true_and]
     refine finish bf g5 yC (xl.congr ?_) (EX.refl _)
     rintro x ⟨s',dP,c3,c4⟩
     rcases mem_append.1 dP with dP | dP
     ·exact ⟨s',dP,c3,c4⟩
     ·have:s'=s:=by simpa using dP
      subst this;exact absurd c3.1 c1
    rw [a9 c1]
    simp only [Bool.not_true,eB,jA,ah,N2]
    rw [ak8]
    by_cases c2:s=d
    ·rw [a9 c2]
     simp only [dI,ah,dX,true_and]
     refine finish bf g5 yC (xl.congr ?_) (EX.refl _)
     rintro x ⟨s',dP,c3,c4⟩
     rcases mem_append.1 dP with dP | dP
     ·exact ⟨s',dP,c3,c4⟩
     ·have:s'=s:=by simpa using dP
      subst this;exact absurd c2 c3.2
    rw [aU c2]
    have hR:=alo awD awz c1 c2
    simp only [dI,ah,dV,Yg um (show s<1024 by omega) (show d<1024 by omega)]
    generalize II:nV s d=m at hR⊢
    have DT:=hR.lt
    have Iw:∀x,CN d (seen++[s]) x→CN d seen x∨x=m:=by
     rintro x ⟨s',dP,c3,c4⟩
     rcases mem_append.1 dP with dP | dP
     ·exact .inl ⟨s',dP,c3,c4⟩
     ·have:s'=s:=by simpa using dP
      subst this;exact .inr (by rw [c4,II])
    have IQ:PL g5 p js bs:=hp.mono (ng.trans nh)
    refine Wq IQ rE (by omega) (by rw [hn];exact DT) fun g6 x6=>?_
    refine Wk (IQ.mono x6) rE (by omega) (by rw [hn];exact yC) fun g7 x7=>?_
    rw [alV,alR]
    have bA:=afF (al8 rE m) (aeS rE bf)
    have bB:=afF (al8 rE bf) (aeS rE m)
    have eO:=x6.trans x7
    simp only [wI,ah,wrap64 (show -9223372036854775808≤wS js m*lS js bf by omega) (show wS js m*lS js bf<9223372036854775808 by omega)]
    refine Wq (IQ.mono eO) rE (by omega) (by rw [hn];exact yC) fun g8 x8=>?_
    refine Wk (IQ.mono (eO.trans x8)) rE (by omega) (by rw [hn];exact DT) fun g9 x9=>?_
    rw [alV,alR]
    have fI:=(eO.trans x8).trans x9
    have ez:decide (((bf:Nat):Int)=0)=decide (bf=0):=by rw [decide_eq_decide];omega
    simp only [wI,ah,wrap64 (show -9223372036854775808≤wS js bf*lS js m by omega) (show wS js bf*lS js m<9223372036854775808 by omega),jA,ez]
    rw [aBW]
    by_cases b0:bf=0
    ·rw [a9 b0]
     simp only [gn]
     rw [ak9]
     simp only [eW,ah,dX,true_and]
     exact finish m g9 DT ((xl.take P sA hR (.inl b0)).congr Iw) fI
    rw [aU b0]
    simp only [eB,fN,ah]
    rw [ak9]
    by_cases c3:wS js bf*lS js m<wS js m*lS js bf
    ·rw [a9 c3]
     simp only [dI,ah,dX,true_and]
     exact finish m g9 DT ((xl.take P sA hR (.inr c3)).congr Iw) fI
    rw [aU c3]
    simp only [dI,ah,dV,jA]
    by_cases c4:wS js bf*lS js m=wS js m*lS js bf
    ·rw [a9 c4.symm]
     simp only [dX,orK um (show bf<1024 by omega) (show m<1024 by omega),ah,true_and]
     exact finish _ g9 (Nat.or_lt_two_pow yC DT) ((xl.join P sA hR b0 c4).congr Iw) fI
    ·rw [aU (fun h=>c4 h.symm)]
     simp only [dV,true_and]
     exact finish bf g9 yC ((xl.pass P sA hR b0 (by omega)).congr Iw) fI
  ·have Qo:d=cJ n:=by simpa using heq
   rw [aBY]
   have e:=lZ.uniq (Re [] Qo) iH
   rw [List.append_nil] at e
   subst e
   have bp:out≠[]:=by
    rintro rfl
    have h0:(0:Nat)=cJ n:=iH
    omega
   refine ⟨ng,?_⟩
   rcases own with ⟨_,h2⟩ | ⟨i,i1,i2,i3⟩
   ·exact absurd (by simpa using h2) bp
   ·exact ⟨i,by omega,i3,by rw [i2,length_map]⟩
end
section
def ahv (h:ae) (i:Nat):Bool:=
 match aR h i with
 | some [.slice (some ⟨a,0,some _⟩) 2 2,.slice (some ⟨b,0,some _⟩) 2 2]=>
  (match aR h a with | some xs=>xJ xs [I 3,I 1,I 1,I 1] | none=>false)&&(match aR h b with | some ys=>xJ ys [U 0,U 1] | none=>false)
 | _=>false
noncomputable def qQ:kR:=fun t args h=>
 match t with
 | .func 73=>
  match args with
  | [.pointer (some ⟨i,0,none⟩)]=>if ahv h i=true then some (sl 131 h.length 0 1,h++[.arr 131 [U 3]]) else none
  | _=>none
 | _=>none
theorem aDy:lZ [0,1] [(3,1),(1,1)] 2 0 [3]:=by
 have Yd:∀x,x<2^2→x=0∨x=1∨x=2∨x=3:=by intro x hx;omega
 have e1:wS [(3,1),(1,1)] 1=1∧lS [(3,1),(1,1)] 1=3:=by decide
 have e3:wS [(3,1),(1,1)] 3=2∧lS [(3,1),(1,1)] 3=4:=by decide
 refine ⟨⟨⟨⟨by decide,by decide,by decide,by decide⟩,fun x hx=>?_⟩,fun m hm=>?_⟩,by show (0 ||| 3)=cJ 2;decide⟩
 ·rcases Yd x hx.lt with rfl | rfl | rfl | rfl
  ·exact absurd rfl hx.ne
  ·rw [e1.1,e1.2,e3.1,e3.2];decide
  ·have:=hx.cl
   revert this
   decide
  ·exact Int.le_refl _
 ·rcases Yd m hm.1.lt with rfl | rfl | rfl | rfl <;> decide
theorem ay3:sg prog qQ:=by
 constructor
 ·intro F args h v h' he
  simp only [qQ] at he
  split at he
  ·rename_i hF
   injection hF with hF
   subst hF
   split at he
   ·rename_i i
    split at he
    ·rename_i aG
     simp only [Option.some.injEq,Prod.mk.injEq] at he
     obtain ⟨rfl,rfl⟩:=he
     unfold ahv at aG
     split at aG
     ·rename_i hc
      rename_i a ea b eb
      rw [and_eq_true] at aG
      obtain ⟨ha,hb⟩:=aG
      split at ha
      ·rename_i xs hx
       split at hb
       ·rename_i ys hy
        have bR:=Cl ha
        have qD:=Cl hb
        subst bR qD
        have mT:PL h (pt i 0) [(3,1),(1,1)] [0,1]:=by
         refine ⟨i,_,_,rfl,hc,?_,?_⟩
         ·exact PS.sl (e:=ea) (i:=a) (ps:=[(3,1),(1,1)]) hx
         ·exact NS.sl (e:=eb) (i:=b) (k:=.u16) (ns:=[0,1]) (.inr hy) (by decide)
        have ry:=C73 (os:=[3]) (n:=2) (K:=fun v aT=>v=sl 131 h.length 0 1∧aT=h++[.arr 131 [U 3]]) mT rfl (by decide) (by decide)
         (by intro j hj;rcases mem_cons.1 hj with rfl | hj;decide;rcases mem_cons.1 hj with rfl | hj;decide;simp at hj) rfl (by intro b hb;rcases mem_cons.1 hb with rfl | hb;decide;rcases mem_cons.1 hb with rfl | hb;decide;simp at hb) aDy ⟨rfl,rfl⟩
        rw [uH] at ry
        obtain ⟨v,h',Qh,rfl,rfl⟩:=ry
        exact Qh
       ·cases hb
      ·cases ha
     ·cases aG
    ·cases he
   ·cases he
  ·cases he
 ·intro i args h v h' he
  simp only [qQ] at he
  cases he
end
end Go.Proofs.YtelmdbpaoifmoaaGreat
namespace Go.Sim
section
def Ac (f:Nat→Option Nat) (v:Value):Option Value:=
 match v with
 | .pointer (some ⟨i,o,none⟩)=>match f i with | some j=>some (.pointer (some ⟨j,o,none⟩)) | none=>none
 | .slice (some ⟨i,o,some e⟩) n c=>match f i with | some j=>some (.slice (some ⟨j,o,some e⟩) n c) | none=>none
 | v=>match fL v with | true=>some v | false=>none
def vY (f:Nat→Option Nat):List Value→Option (List Value)
 | []=>some []
 | v::vs=>match Ac f v with
  | some u=>match vY f vs with | some us=>some (u::us) | none=>none
  | none=>none
def Kn (f:Nat→Option Nat) (v:Value):Option Value:=
 match v with
 | .agg xs=>match vY f xs.toList with | some ys=>some (.agg ys.toArray) | none=>none
 | v=>Ac f v
def Ab (f:Nat→Option Nat):List Value→Option (List Value)
 | []=>some []
 | v::vs=>match Kn f v with
  | some u=>match Ab f vs with | some us=>some (u::us) | none=>none
  | none=>none
def Kr (f:Nat→Option Nat) (v:Value):Option Value:=
 match v with
 | .tuple xs=>match Ab f xs.toList with | some ys=>some (.tuple ys.toArray) | none=>none
 | v=>Kn f v
def vZ (f:Nat→Option Nat) (o:aq):Option aq:=
 match o with
 | .arr e xs=>match vY f xs with | some ys=>some (.arr e ys) | none=>none
 | .ro e xs=>match vY f xs with | some ys=>some (.ro e ys) | none=>none
 | _=>none
section
variable {f : Nat → Option Nat} {pY ni : aK} (hf : ∀ i k, f i = some k → pY i = ni k)
include hf
theorem Ko {v u v':Value} (h:Ac f v=some u):ax pY v v'↔ax ni u v':=by
 unfold Ac at h
 split at h
 ·split at h
  ·rename_i i o j hj
   injection h with h;subst h
   have e:=hf _ _ hj
   constructor
   ·intro q;cases q with | ptr hr=>exact .ptr (by rw [←e];exact hr)
   ·intro q;cases q with | ptr hr=>exact .ptr (by rw [e];exact hr)
  ·cases h
 ·split at h
  ·rename_i i o el n c j hj
   injection h with h;subst h
   have e:=hf _ _ hj
   constructor
   ·intro q;cases q with | slice hr a b c d=>exact .slice (by rw [←e];exact hr) a b c d
   ·intro q;cases q with | slice hr a b c d=>exact .slice (by rw [e];exact hr) a b c d
  ·cases h
 ·split at h
  ·rename_i hs
   injection h with h;subst h
   exact ⟨fun q=>fL.rel hs q,fun q=>fL.rel hs q⟩
  ·cases h
omit hf in
theorem Ux {v u:Value} (h:Ac f v=some u):gy v=gy u:=by
 unfold Ac at h
 split at h
 ·split at h
  ·injection h with h;subst h;rfl
  ·cases h
 ·split at h
  ·injection h with h;subst h;rfl
  ·cases h
 ·split at h
  ·injection h with h;subst h;rfl
  ·cases h
omit hf in
theorem Kq:∀{xs ys:List Value},vY f xs=some ys→xs.length=ys.length∧∀(k:Nat) (x y:Value),xs[k]?=some x→ys[k]?=some y→Ac f x=some y
 | [],ys,h=>by
  simp only [vY,Option.some.injEq] at h
  subst h
  exact ⟨rfl,fun k x y h _=>by simp at h⟩
 | x::xs,ys,h=>by
  simp only [vY] at h
  split at h
  ·rename_i u hu
   split at h
   ·rename_i us BC
    injection h with h;subst h
    obtain ⟨h1,h2⟩:=Kq BC
    refine ⟨by simp [h1],fun k a b ha hb=>?_⟩
    cases k with
    | zero=>simp at ha hb;rw [←ha,←hb];exact hu
    | succ k=>exact h2 k a b (by simpa using ha) (by simpa using hb)
   ·cases h
  ·cases h
theorem Kp {xs ys:List Value} (h:vY f xs=some ys) {c:Array Value} {sh:Nat}:fX pY c sh xs↔fX ni c sh ys:=by
 obtain ⟨hl,hg⟩:=Kq h
 constructor
 ·intro q j y hy
  have hj:j<xs.length:=by rw [hl];exact (bK hy).1
  have hx:xs[j]?=some xs[j]:=getElem?_eq_getElem hj
  obtain ⟨q1,z,q2,q3⟩:=q j _ hx
  have r:=hg j _ _ hx hy
  exact ⟨by rw [←Ux r];exact q1,z,q2,(Ko hf r).1 q3⟩
 ·intro q j x hx
  have hj:j<ys.length:=by rw [←hl];exact (bK hx).1
  have hy:ys[j]?=some ys[j]:=getElem?_eq_getElem hj
  obtain ⟨q1,z,q2,q3⟩:=q j _ hy
  have r:=hg j _ _ hx hy
  exact ⟨by rw [Ux r];exact q1,z,q2,(Ko hf r).2 q3⟩
theorem Uy {o u:aq} {w:World} {r:RI} (h:vZ f o=some u):kY pY w r o↔kY ni w r u:=by
 unfold vZ at h
 split at h
 ·split at h
  ·rename_i pL
   injection h with h;subst h
   constructor
   ·rintro ⟨a,b,c,d,e,g⟩;exact ⟨a,b,c,d,e,(Kp hf pL).1 g⟩
   ·rintro ⟨a,b,c,d,e,g⟩;exact ⟨a,b,c,d,e,(Kp hf pL).2 g⟩
  ·cases h
 ·split at h
  ·rename_i pL
   injection h with h;subst h
   constructor
   ·rintro ⟨a,c,t,fr,d,e,g⟩;exact ⟨a,c,t,fr,d,e,(Kp hf pL).1 g⟩
   ·rintro ⟨a,c,t,fr,d,e,g⟩;exact ⟨a,c,t,fr,d,e,(Kp hf pL).2 g⟩
  ·cases h
 ·cases h
theorem aCD {xs ys zs:List Value} (h:vY f xs=some ys) (q:bF pY xs zs):bF ni ys zs:=by
 obtain ⟨hl,hg⟩:=Kq h
 refine bF.Jv (by rw [←hl];exact q.length) fun k y z hy hz=>?_
 have hk:k<xs.length:=by rw [hl];exact (bK hy).1
 have hx:xs[k]?=some xs[k]:=getElem?_eq_getElem hk
 obtain ⟨z',h1,h2⟩:=q.get hx
 rw [hz] at h1;cases h1
 exact (Ko hf (hg k _ _ hx hy)).1 h2
theorem alp {v u v':Value} (h:Kn f v=some u) (q:ax pY v v'):ax ni u v':=by
 unfold Kn at h
 split at h
 ·rename_i xs
  split at h
  ·rename_i ys zk
   injection h with h;subst h
   cases q with
   | agg hs h1 hr=>
    have vs:=aCD hf zk (bF.ti hs hr)
    obtain ⟨hl,hg⟩:=Kq zk
    refine .agg (by have:=vs.length;simpa using this) (fun y hy=>?_) (by have:=vs.ofList;simpa using this)
    have qD:y∈ys:=by simpa using hy
    obtain ⟨k,hk,e⟩:=List.mem_iff_getElem.1 qD
    have hx:xs.toList[k]?=some (xs.toList[k]'(by omega)):=getElem?_eq_getElem (by omega)
    have r:=hg k _ y hx (by rw [getElem?_eq_getElem hk,e])
    rw [←Ux r]
    exact h1 _ (getElem_mem _)
  ·cases h
 ·exact (Ko hf h).1 q
theorem Uw:∀{xs ys zs:List Value},Ab f xs=some ys→bF pY xs zs→bF ni ys zs
 | [],ys,zs,h,q=>by
  simp only [Ab,Option.some.injEq] at h
  subst h
  cases q;exact .nil
 | x::xs,ys,zs,h,q=>by
  simp only [Ab] at h
  split at h
  ·rename_i u hu
   split at h
   ·rename_i us BC
    injection h with h;subst h
    cases q with
    | cons a b=>exact .cons (alp hf hu a) (Uw BC b)
   ·cases h
  ·cases h
theorem aCF {v u v':Value} (h:Kr f v=some u) (q:ax pY v v'):ax ni u v':=by
 unfold Kr at h
 split at h
 ·rename_i xs
  split at h
  ·rename_i ys zk
   injection h with h;subst h
   cases q with
   | tuple hs hr=>
    have vs:=Uw hf zk (bF.ti hs hr)
    exact .tuple (by have:=vs.length;simpa using this) (by have:=vs.ofList;simpa using this)
  ·cases h
 ·exact alp hf h q
end
def pR (i:Nat):List Nat→Option Nat
 | []=>none
 | a::l=>match Nat.beq a i with | true=>some 0 | false=>match pR i l with | some k=>some (k+1) | none=>none
theorem Kd {i:Nat}:∀{l:List Nat} {k:Nat},pR i l=some k→l[k]?=some i
 | [],k,h=>by cases h
 | a::l,k,h=>by
  simp only [pR] at h
  split at h
  ·rename_i hb
   injection h with h;subst h
   simp [eq_of_beq_eq_true hb]
  ·split at h
   ·rename_i k' ca
    injection h with h;subst h
    simpa using Kd ca
   ·cases h
def AL (ids is:List Nat) (b:Nat) (k:Nat):Option Nat:=
 match Nat.blt k ids.length with
 | true=>ids[k]?
 | false=>match pR k is with | some t=>some (b+t) | none=>none
theorem aCE {f:Nat→Option Nat} {o u:aq} (h:vZ f o=some u):(∃e xs ys,o=.arr e xs∧u=.arr e ys)∨∃e xs ys,o=.ro e xs∧u=.ro e ys:=by
 unfold vZ at h
 split at h
 ·split at h
  ·injection h with h;subst h;exact .inl ⟨_,_,_,rfl,rfl⟩
  ·cases h
 ·split at h
  ·injection h with h;subst h;exact .inr ⟨_,_,_,rfl,rfl⟩
  ·cases h
 ·cases h
theorem sW {h h2:ae} {i k:Nat} {o u:aq} {f:Nat→Option Nat} (h1:h[i]?=some o) (h3:h2[k]?=some u) (hr:vZ f o=some u):(cB h i↔cB h2 k)∧eX h i∧eX h2 k:=by
 unfold cB eX
 rw [h1,h3]
 rcases aCE hr with ⟨e,xs,ys,rfl,rfl⟩ | ⟨e,xs,ys,rfl,rfl⟩ <;> simp
theorem afM {l:List Nat} (h:l.Nodup) {a b i:Nat} (ha:l[a]?=some i) (hb:l[b]?=some i):a=b:=by
 obtain ⟨h1,h2⟩:=bK ha
 obtain ⟨h3,h4⟩:=bK hb
 have hp:=List.pairwise_iff_getElem.1 h
 rcases Nat.lt_trichotomy a b with hl | he | hl
 ·exact absurd (h2.trans h4.symm) (hp a b h1 h3 hl)
 ·exact he
 ·exact absurd (h4.trans h2.symm) (hp b a h3 h1 hl)
theorem awU {P:Program} {F:FuncId} {xX args:List Value} {h0 nZ h os:ae} {v0 v:Value} {ids is:List Nat} (hc:wz P F xX h0 v0 nZ)
  (oT:ids.Nodup) (hlen:h0.length=ids.length) (ha:Ab (pR · ids) args=some xX)
  (ho:∀(k i:Nat),ids[k]?=some i→∃o o0:aq,h[i]?=some o∧h0[k]?=some o0∧vZ (pR · ids) o=some o0)
  (hex:EX h0 nZ) (avS:is.Nodup) (avR:∀k∈is,h0.length≤k) (hv:Kr (AL ids is h.length) v0=some v) (_:os.length=is.length)
  (iH:∀(t k:Nat),is[t]?=some k→∃o0 o:aq,nZ[k]?=some o0∧os[t]?=some o∧vZ (AL ids is h.length) o0=some o):wz P F args h v (h++os):=by
 intro ρ args' w hva H
 let rZ:aK:=fun k=>(ids[k]?).bind ρ
 have f1:∀i k,pR i ids=some k→ρ i=rZ k:=fun i k hk=>by simp [rZ,Kd hk]
 have aeo:∀k i,ids[k]?=some i→i<h.length:=fun k i hk=>by
  obtain ⟨o,o0,h1,_⟩:=ho k i hk
  exact (bK h1).1
 have r0:∀k r,rZ k=some r→∃i,ids[k]?=some i∧ρ i=some r:=by
  intro k r hr
  cases hi:ids[k]? with
  | none=>simp [rZ,hi] at hr
  | some i=>exact ⟨i,rfl,by simpa [rZ,hi] using hr⟩
 have H0:aZ P rZ h0 w:=by
  refine ⟨?_,?_,?_⟩
  ·intro k r hr
   obtain ⟨i,hi,jo⟩:=r0 k r hr
   obtain ⟨o,o0,h1,h2,h3⟩:=ho k i hi
   obtain ⟨o',dO,nC⟩:=H.obj i r jo
   rw [h1] at dO;cases dO
   exact ⟨o0,h2,(Uy f1 h3).1 nC⟩
  ·intro a b r s rD qA mU hm hl
   obtain ⟨i,hi,jo⟩:=r0 a r rD
   obtain ⟨j,hj,hrj⟩:=r0 b s qA
   obtain ⟨o,o0,h1,h2,h3⟩:=ho a i hi
   obtain ⟨p,p0,q1,q2,q3⟩:=ho b j hj
   have e:=H.inj i j r s jo hrj mU ((sW h1 h2 h3).1.2 hm) (sW q1 q2 q3).2.1
   subst e
   exact afM oT hi hj
  ·intro k r hr
   obtain ⟨i,_,jo⟩:=r0 k r hr
   exact H.aX i r jo
 refine (hc rZ args' w (Uw f1 ha hva) H0).mono ?_
 rintro e w' ⟨v',uF,rfl,kG,H',T⟩
 let ni:aK:=fun j=>if j<h.length then ρ j else (is[j-h.length]?).bind uF
 have uj:∀j,j<h.length→ni j=ρ j:=fun j hj=>by simp [ni,hj]
 have r2n:∀t,ni (h.length+t)=(is[t]?).bind uF:=fun t=>by
  show (if h.length+t<h.length then ρ (h.length+t) else (is[h.length+t-h.length]?).bind uF)=_
  rw [if_neg (by omega),Nat.add_sub_cancel_left]
 have EF:∀k i,ids[k]?=some i→uF k=ρ i:=by
  intro k i hi
  have e0:rZ k=ρ i:=by simp [rZ,hi]
  cases hr:ρ i with
  | some r=>exact T.ext k r (by rw [e0];exact hr)
  | none=>
   cases qx:uF k with
   | none=>rfl
   | some r=>
    have:=(T.fresh k r qx (by rw [e0];exact hr)).1
    have:k<ids.length:=(bK hi).1
    omega
 have f2:∀k j,AL ids is h.length k=some j→uF k=ni j:=by
  intro k j hk
  unfold AL at hk
  split at hk
  ·rw [EF k j hk,uj j (aeo k j hk)]
  ·split at hk
   ·rename_i t ht
    injection hk with hk;subst hk
    rw [r2n t,Kd ht];rfl
   ·cases hk
 have f3:∀i k,pR i ids=some k→ni i=uF k:=fun i k hk=>by
  have:=Kd hk
  rw [EF k i this,uj i (aeo k i this)]
 have ahw:∀j,j<h.length→(h++os)[j]?=h[j]?:=fun j hj=>getElem?_append_left hj
 have Sr:∀t,(h++os)[h.length+t]?=os[t]?:=fun t=>by rw [List.getElem?_append_right (by omega),Nat.add_sub_cancel_left]
 have hle:ρ.le ni:=fun j r hr=>by rw [uj j (H.lt hr)];exact hr
 have Ey:∀j,j<h.length→(cB (h++os) j↔cB h j)∧(eX (h++os) j↔eX h j):=fun j hj=>by unfold cB eX;rw [ahw j hj];exact ⟨Iff.rfl,Iff.rfl⟩
 -- uz is new,uM gR own heap has it
 have zQ:∀j r,ni j=some r→¬j<h.length→∃t k:Nat,j=h.length+t∧is[t]?=some k∧uF k=some r∧h0.length≤k:=by
  intro j r hr hj
  obtain ⟨t,rfl⟩:∃t,j=h.length+t:=⟨j-h.length,by omega⟩
  rw [r2n t] at hr
  cases hk:is[t]? with
  | none=>rw [hk] at hr;cases hr
  | some k=>rw [hk] at hr;exact ⟨t,k,rfl,hk,hr,avR k (List.mem_of_getElem? hk)⟩
 have axh:∀k,h0.length≤k→rZ k=none:=fun k hk=>by
  have:ids[k]?=none:=List.getElem?_eq_none (by omega)
  simp [rZ,this]
 have afK:∀(k:Nat) (r:RI),uF k=some r→h0.length≤k→w.heap.size≤r.bw∨∃(k' i:Nat) (s:RI),ids[k']?=some i∧ρ i=some s∧s.bw=r.bw∧cB h i:=by
  intro k r hr hk
  rcases (T.fresh k r hr (axh k hk)).2 with h1 | ⟨j,s,h1,h2,h3⟩
  ·exact .inl h1
  ·obtain ⟨i,hi,jo⟩:=r0 j s h1
   obtain ⟨o,o0,q1,q2,q3⟩:=ho j i hi
   exact .inr ⟨j,i,s,hi,jo,h2,(sW q1 q2 q3).1.2 h3⟩
 -- an old ayO and a new one aFu no block,if one of aDY dE be written
 have apart:∀(a:Nat) (r:RI) (k:Nat) (s:RI),ρ a=some r→uF k=some s→h0.length≤k→r.bw=s.bw→eX h a→(∀k':Nat,ids[k']?≠some a)→False:=by
  intro a r k s rD oU hk he hla hna
  rcases afK k s oU hk with h1 | ⟨k',i,s',h1,h2,h3,h4⟩
  ·have:=BV H rD hla;omega
  ·have:=H.inj i a s' r h2 rD (by omega) h4 hla
   subst this
   exact hna k' h1
 refine ⟨v',ni,rfl,aCF f2 hv kG,⟨?_,?_,?_⟩,?_⟩
 ·intro j r hr
  by_cases hj:j<h.length
  ·rw [uj j hj] at hr
   obtain ⟨o,IM,nC⟩:=H.obj j r hr
   refine ⟨o,by rw [ahw j hj];exact IM,?_⟩
   by_cases iS:∃k:Nat,ids[k]?=some j
   ·obtain ⟨k,hk⟩:=iS
    obtain ⟨o1,o0,h1,h2,h3⟩:=ho k j hk
    rw [IM] at h1;cases h1
    obtain ⟨o',dO,Q3⟩:=H'.obj k r (by rw [EF k j hk];exact hr)
    rw [hex.get h2] at dO;cases dO
    exact (Uy f3 h3).2 Q3
   ·by_cases hd:o=.dead
    ·subst hd;trivial
    ·refine nC.mono hle (T.hY _ (BV H hr ⟨o,IM,hd⟩) ?_)
     intro k s hk hb hm
     obtain ⟨i,hi,jo⟩:=r0 k s hk
     obtain ⟨o1,o0,q1,q2,q3⟩:=ho k i hi
     have:=H.inj i j s r jo hr hb ((sW q1 q2 q3).1.2 hm) ⟨o,IM,hd⟩
     subst this
     exact iS ⟨k,hi⟩
  ·obtain ⟨t,k,rfl,hk,oU,gr⟩:=zQ j r hr hj
   obtain ⟨o0,o,h1,h2,h3⟩:=iH t k hk
   obtain ⟨o',dO,Q3⟩:=H'.obj k r oU
   rw [h1] at dO;cases dO
   exact ⟨o,by rw [Sr t];exact h2,(Uy f2 h3).1 Q3⟩
 ·intro a b r s rD qA mU hm hl
  by_cases Bb:a<h.length <;> by_cases Bf:b<h.length
  ·rw [uj a Bb] at rD
   rw [uj b Bf] at qA
   exact H.inj a b r s rD qA mU ((Ey a Bb).1.1 hm) ((Ey b Bf).2.1 hl)
  ·exfalso
   rw [uj a Bb] at rD
   obtain ⟨t,k,rfl,hk,oU,gr⟩:=zQ b s qA Bf
   have hma:=(Ey a Bb).1.1 hm
   by_cases iS:∃k':Nat,ids[k']?=some a
   ·obtain ⟨k',ca⟩:=iS
    obtain ⟨o,o0,q1,q2,q3⟩:=ho k' a ca
    have m1:cB nZ k':=by
     have:=(sW q1 (hex.get q2) q3).1.1 hma
     exact this
    obtain ⟨p0,p,u1,u2,u3⟩:=iH t k hk
    have:=H'.inj k' k r s (by rw [EF k' a ca];exact rD) oU mU m1 (sW u1 u2 u3).2.1
    have:k'<ids.length:=(bK ca).1
    omega
   ·exact apart a r k s rD oU gr mU hma.live fun k' ca=>iS ⟨k',ca⟩
  ·exfalso
   rw [uj b Bf] at qA
   obtain ⟨t,k,rfl,hk,oU,gr⟩:=zQ a r rD Bb
   have pI:=(Ey b Bf).2.1 hl
   obtain ⟨p0,p,u1,u2,u3⟩:=iH t k hk
   have m0:cB nZ k:=(sW u1 (show (h++os)[h.length+t]?=some p by rw [Sr t];exact u2) u3).1.2 hm
   by_cases iS:∃k':Nat,ids[k']?=some b
   ·obtain ⟨k',ca⟩:=iS
    obtain ⟨o,o0,q1,q2,q3⟩:=ho k' b ca
    have:=H'.inj k k' r s oU (by rw [EF k' b ca];exact qA) mU m0 (sW q1 (hex.get q2) q3).2.2
    have:k'<ids.length:=(bK ca).1
    omega
   ·exact apart b s k r qA oU gr mU.symm pI fun k' ca=>iS ⟨k',ca⟩
  ·obtain ⟨t,k,rfl,hk,oU,gr⟩:=zQ a r rD Bb
   obtain ⟨t',k',rfl,ca,awt,aFb⟩:=zQ b s qA Bf
   obtain ⟨p0,p,u1,u2,u3⟩:=iH t k hk
   obtain ⟨p0',p',x1,x2,x3⟩:=iH t' k' ca
   have m0:cB nZ k:=(sW u1 (show (h++os)[h.length+t]?=some p by rw [Sr t];exact u2) u3).1.2 hm
   have:=H'.inj k k' r s oU awt mU m0 (sW x1 x2 x3).2.1
   subst this
   rw [afM avS hk ca]
 ·intro j r hr
  by_cases hj:j<h.length
  ·rw [uj j hj] at hr;exact H.aX j r hr
  ·obtain ⟨t,k,rfl,hk,oU,gr⟩:=zQ j r hr hj
   exact H'.aX k r oU
 ·exact {
   ext:=hle
   len:=by simp
   jC:=fun k r hr=>H.lt hr
   kinds:=fun k hk hm=>(Ey k hk).1.1 hm
   fresh:=by
    intro j r hr hn
    by_cases hj:j<h.length
    ·rw [uj j hj,hn] at hr;cases hr
    ·obtain ⟨t,k,rfl,hk,oU,gr⟩:=zQ j r hr hj
     refine ⟨by omega,?_⟩
     rcases afK k r oU gr with h1 | ⟨k',i,s,h1,h2,h3,h4⟩
     ·exact .inl h1
     ·exact .inr ⟨i,s,h2,h3,h4⟩
   iL:=T.iL
   hY:=by
    intro b hb dG
    refine T.hY b hb ?_
    intro k s hk vF hm
    obtain ⟨i,hi,jo⟩:=r0 k s hk
    obtain ⟨o,o0,q1,q2,q3⟩:=ho k i hi
    exact dG i s jo vF ((sW q1 q2 q3).1.2 hm)
   os:=T.os
   tape:=T.tape
   output:=T.output }
end
section
section
variable {β : Type}
def sr (n:Nat) (k:Nat→β):β:=match n with | 0=>k 0 | m+1=>k (m+1)
theorem Dr (n:Nat) (k:Nat→β):sr n k=k n:=by cases n <;> rfl
def PH (n:Int) (k:Int→β):β:=match n with | .ofNat m=>sr m fun m=>k (.ofNat m) | .negSucc m=>sr m fun m=>k (.negSucc m)
theorem auY (n:Int) (k:Int→β):PH n k=k n:=by cases n <;> simp [PH,Dr]
def H8 (v:Value) (k:Value→β):β:=
 match v with
 | .int kd n=>PH n fun n=>k (.int kd n)
 | .bool b=>match b with | true=>k (.bool true) | false=>k (.bool false)
 | .pointer (some ⟨i,o,none⟩)=>sr i fun i=>sr o fun o=>k (.pointer (some ⟨i,o,none⟩))
 | .slice (some ⟨i,o,some e⟩) n c=>sr i fun i=>sr o fun o=>sr n fun n=>sr c fun c=>k (.slice (some ⟨i,o,some e⟩) n c)
 | v=>k v
theorem acm (v:Value) (k:Value→β):H8 v k=k v:=by
 unfold H8
 split
 ·rw [auY]
 ·rename_i b;cases b <;> rfl
 ·simp only [Dr]
 ·simp only [Dr]
 ·rfl
def A0 (xs:List Value) (k:List Value→β):β:=match xs with | []=>k [] | x::xs=>H8 x fun x=>A0 xs fun xs=>k (x::xs)
theorem PG:∀(xs:List Value) (k:List Value→β),A0 xs k=k xs
 | [],_=>rfl
 | x::xs,k=>by simp only [A0,acm];exact PG xs _
def H7 (v:Value) (k:Value→β):β:=match v with | .agg xs=>A0 xs.toList fun ys=>k (.agg ys.toArray) | v=>H8 v k
theorem ack (v:Value) (k:Value→β):H7 v k=k v:=by
 unfold H7
 split
 ·rw [PG]
 ·exact acm _ _
def Dq (xs:List Value) (k:List Value→β):β:=match xs with | []=>k [] | x::xs=>H7 x fun x=>Dq xs fun xs=>k (x::xs)
theorem PF:∀(xs:List Value) (k:List Value→β),Dq xs k=k xs
 | [],_=>rfl
 | x::xs,k=>by simp only [Dq,ack];exact PF xs _
def PI (v:Value) (k:Value→β):β:=match v with | .tuple xs=>Dq xs.toList fun ys=>k (.tuple ys.toArray) | v=>H7 v k
theorem auZ (v:Value) (k:Value→β):PI v k=k v:=by
 unfold PI
 split
 ·rw [PF]
 ·exact ack _ _
def yo (h:ae) (k:ae→β):β:=
 match h with
 | []=>k []
 | o::r=>match o with
  | .arr e xs=>A0 xs fun xs=>yo r fun r=>k (.arr e xs::r)
  | .ro e xs=>A0 xs fun xs=>yo r fun r=>k (.ro e xs::r)
  | o=>yo r fun r=>k (o::r)
theorem acn:∀(h:ae) (k:ae→β),yo h k=k h
 | [],_=>rfl
 | o::r,k=>by
  unfold yo
  cases o <;> simp only [PG] <;> exact acn r _
def Ds (xs:List Nat) (k:List Nat→β):β:=match xs with | []=>k [] | x::xs=>sr x fun x=>Ds xs fun xs=>k (x::xs)
theorem aco:∀(xs:List Nat) (k:List Nat→β),Ds xs k=k xs
 | [],_=>rfl
 | x::xs,k=>by simp only [Ds,Dr];exact aco xs _
end
def awX:Value→List Nat
 | .pointer (some ⟨i,_,none⟩)=>[i]
 | .slice (some ⟨i,_,some _⟩) _ _=>[i]
 | _=>[]
def BH:List Value→List Nat→List Nat
 | [],r=>r
 | x::xs,r=>match awX x with | i::_=>i::BH xs r | []=>BH xs r
def aeq (v:Value) (r:List Nat):List Nat:=match v with | .agg xs=>BH xs.toList r | v=>BH [v] r
def RB:List Value→List Nat→List Nat
 | [],r=>r
 | x::xs,r=>aeq x (RB xs r)
def awY (v:Value):List Nat:=match v with | .tuple xs=>RB xs.toList [] | v=>aeq v []
def reach:Nat→ae→List Nat→List Nat→List Nat
 | 0,_,_,acc=>acc
 | _+1,_,[],acc=>acc
 | n+1,h,i::r,acc=>
  match pR i acc with
  | some _=>reach n h r acc
  | none=>match h[i]? with
   | some (.arr _ xs)=>reach n h (BH xs r) (acc++[i])
   | some (.ro _ xs)=>reach n h (BH xs r) (acc++[i])
   | _=>reach n h r (acc++[i])
def EB:List Nat→Bool
 | []=>true
 | a::l=>match pR a l with | some _=>false | none=>EB l
theorem akm {i:Nat}:∀{l:List Nat},pR i l=none→i∉l
 | [],_=>by simp
 | a::l,h=>by
  simp only [pR] at h
  split at h
  ·cases h
  ·rename_i hb
   split at h
   ·cases h
   ·rename_i hn
    intro hm
    rcases mem_cons.1 hm with rfl | hm
    ·simp at hb
    ·exact akm hn hm
theorem Su:∀{l:List Nat},EB l=true→l.Nodup
 | [],_=>.nil
 | a::l,h=>by
  simp only [EB] at h
  split at h
  ·cases h
  ·rename_i hn
   exact List.nodup_cons.2 ⟨akm hn,Su h⟩
def BY (f:Nat→Option Nat) (h:ae):List Nat→Option ae
 | []=>some []
 | i::r=>match h[i]? with
  | some o=>match vZ f o with
   | some u=>match BY f h r with | some us=>some (u::us) | none=>none
   | none=>none
  | none=>none
theorem SG {f:Nat→Option Nat} {h:ae}:∀{l:List Nat} {us:ae},BY f h l=some us→us.length=l.length∧∀(k i:Nat),l[k]?=some i→∃o u:aq,h[i]?=some o∧us[k]?=some u∧vZ f o=some u
 | [],us,e=>by
  simp only [BY,Option.some.injEq] at e
  subst e
  exact ⟨rfl,fun k i hk=>by simp at hk⟩
 | i::r,us,e=>by
  simp only [BY] at e
  split at e
  ·rename_i o ho
   split at e
   ·rename_i u hu
    split at e
    ·rename_i KX BC
     injection e with e;subst e
     obtain ⟨h1,h2⟩:=SG BC
     refine ⟨by simp [h1],fun k j hk=>?_⟩
     cases k with
     | zero=>
      have:i=j:=by simpa using hk
      subst this
      exact ⟨o,u,ho,rfl,hu⟩
     | succ k=>simpa using h2 k j (by simpa using hk)
    ·cases e
   ·cases e
  ·cases e
def SA (a b:aq):Bool:=
 match a,b with
 | .arr e xs,.arr e' fx=>Nat.beq e e'&&xJ xs fx
 | .ro e xs,.ro e' fx=>Nat.beq e e'&&xJ xs fx
 | _,_=>false
theorem ayN {a b:aq} (h:SA a b=true):a=b:=by
 unfold SA at h
 split at h
 ·rw [and_eq_true] at h
  rw [eq_of_beq_eq_true h.1,Cl h.2]
 ·rw [and_eq_true] at h
  rw [eq_of_beq_eq_true h.1,Cl h.2]
 ·cases h
def Kz:ae→ae→Bool
 | [],_=>true
 | a::r,b::s=>SA a b&&Kz r s
 | _::_,[]=>false
theorem alF:∀{h g:ae},Kz h g=true→EX h g
 | [],g,_=>⟨zero_le _,fun i hi=>by simp at hi⟩
 | a::r,b::s,e=>by
  simp only [Kz,and_eq_true] at e
  obtain ⟨h1,h2⟩:=alF e.2
  have:=ayN e.1
  subst this
  refine ⟨by simpa using h1,fun i hi=>?_⟩
  cases i with
  | zero=>rfl
  | succ i=>simpa using h2 i (by simpa using hi)
 | _::_,[],e=>by cases e
def Ij (b:Nat):List Nat→Bool
 | []=>true
 | a::l=>Nat.ble b a&&Ij b l
theorem acF {b:Nat}:∀{l:List Nat},Ij b l=true→∀k∈l,b≤k
 | [],_,k,hk=>by simp at hk
 | a::l,h,k,hk=>by
  simp only [Ij,and_eq_true] at h
  rcases mem_cons.1 hk with rfl | hk
  ·exact bH h.1
  ·exact acF h.2 k hk
def P3 (b:Nat):List Nat→List Nat
 | []=>[]
 | a::l=>match Nat.ble b a with | true=>a::P3 b l | false=>P3 b l
noncomputable def PR (call:kR):kR:=fun t args h=>
 match t with
 | .func F=>
  Ds (reach 400 h (RB args []) []) fun ids=>
  match Ab (pR · ids) args,BY (pR · ids) h ids with
  | some xX,some h0=>
   Dq xX fun xX=>yo h0 fun h0=>
   match call (.func F) xX h0 with
   | some (v0,nZ)=>
    match Kz h0 nZ&&EB ids with
    | true=>
     Ds (P3 h0.length (reach 400 nZ (awY v0) [])) fun is=>
     sr h.length fun b=>
     match Kr (AL ids is b) v0,BY (AL ids is b) nZ is with
     | some v,some os=>
      match EB is&&Ij h0.length is with
      | true=>PI v fun v=>yo os fun os=>some (v,h++os)
      | false=>none
     | _,_=>call t args h
    | false=>call t args h
   | none=>none
  | _,_=>call t args h
 | _=>call t args h
theorem ave {P:Program} {call:kR} (HC:sg P call):sg P (PR call):=by
 constructor
 ·intro F args h v h' he
  simp only [PR,aco,PF,acn,Dr,auZ] at he
  split at he
  ·rename_i xX h0 ha ho
   split at he
   ·rename_i v0 nZ ry
    split at he
    ·rename_i ze
     rw [and_eq_true] at ze
     split at he
     ·rename_i u os hu iH
      split at he
      ·rename_i sE
       rw [and_eq_true] at sE
       simp only [Option.some.injEq,Prod.mk.injEq] at he
       obtain ⟨rfl,rfl⟩:=he
       obtain ⟨a1,a2⟩:=SG ho
       obtain ⟨b1,b2⟩:=SG iH
       exact awU (HC.fn _ _ _ _ _ ry) (Su ze.2) a1 ha a2 (alF ze.1) (Su sE.1) (acF sE.2) hu b1 b2
      ·cases he
     ·exact HC.fn _ _ _ _ _ he
    ·exact HC.fn _ _ _ _ _ he
   ·cases he
  ·exact HC.fn _ _ _ _ _ he
 ·intro i args h v h' he
  exact HC.yi _ _ _ _ _ he
noncomputable def AZ (P:Program) (H:FuncId→Hints) (lf:Nat) (qQ:kR):Nat→kR
 | 0=>fun _ _ _=>none
 | n+1=>fun t args h=>
  match qQ t args h with
  | some r=>some r
  | none=>PR (H6 P H lf (AZ P H lf qQ n)) t args h
theorem acj {P:Program} {H:FuncId→Hints} {lf:Nat} {qQ:kR} (HO:sg P qQ):∀n,sg P (AZ P H lf qQ n)
 | 0=>by constructor <;> (intro _ _ _ _ _ h;cases h)
 | n+1=>by
  have HS:=ave (auT (H:=H) (lf:=lf) (acj (H:=H) (lf:=lf) HO n))
  constructor
  ·intro F args h v h' he
   simp only [AZ] at he
   split at he
   ·rename_i r hr;cases he;exact HO.fn _ _ _ _ _ hr
   ·exact HS.fn _ _ _ _ _ he
  ·intro i args h v h' he
   simp only [AZ] at he
   split at he
   ·rename_i r hr;cases he;exact HO.yi _ _ _ _ _ hr
   ·exact HS.yi _ _ _ _ _ he
theorem auS {P:Program} (H:FuncId→Hints) (lf n:Nat) {qQ:kR} (HO:sg P qQ) {F:FuncId} {args:List Value} {v:Value} (h:(AZ P H lf qQ n (.func F) args []).map Prod.fst=some v):∃h',wz P F args [] v h':=by
 simp only [Option.map_eq_some_iff] at h
 obtain ⟨⟨u,h'⟩,h1,h2⟩:=h
 simp at h2
 subst h2
 exact ⟨h',(acj HO n).fn _ _ _ _ _ h1⟩
end
end Go.Sim
namespace Go.Proofs.YtelmdbpaoifmoaaGreat
open Go.Sim
section
set_option maxHeartbeats 0 in
theorem ayb:(AZ prog evH 1000 qQ 30 (.func 14) [] []).map Prod.fst=some (.bool true):=by kernel_rfl
theorem C14 {h:ae} {K:Value→ae→Prop} (hk:K (.bool true) h):aj prog 14 [] h K:=by
 obtain ⟨h',hc⟩:=auS evH 1000 30 ay3 ayb
 exact atn (oI.fL rfl) hc rfl hk
end
section
open Go.Sim Go.ChangeShapes Go.WideShapes Go.ChangeAt Go.RowKit
set_option maxRecDepth 100000
theorem Tryz.own:ownKnob prog.godebug=none:=by kernel_rfl
theorem Tryz.laidOut:laidOutB prog=true:=by kernel_rfl
theorem Db:prog.cellsOf 5=1:=by kernel_rfl
section
variable {H : Type} {enc : TypeId × Value → H} {W : World} {ρ : aK} {h : ae}
theorem wf_u8 {x:Int} (h:(Lit.int .u8 x).wf=true):0≤x∧x<256:=by
 simp [Lit.wf,IntKind.min,IntKind.max,IntKind.signed,IntKind.bits] at h
 omega
end
end
end Go.Proofs.YtelmdbpaoifmoaaGreat
namespace Go.Sim
section
open Go.ChangeShapes Go.WideShapes Go.ChangeAt Go.RowKit
section
variable {P : Program} {W : World} {ρ : aK} {h : ae} {H : Type} {enc : TypeId × Value → H}
theorem atq {w:World} {a:Addr} {v:Value} (h:w.cell? a=some v):a.spot=none:=by
 unfold World.cell? at h
 split at h
 ·split at h
  ·cases h
  ·rename_i hs
   cases hh:a.spot with
   | none=>rfl
   | some x=>rw [hh] at hs;exact absurd rfl hs
 ·cases h
theorem aD5 {t e:TypeId} (ht:P.underlying t=some (.slice e)) (jm:P.cellsOf e≠0) {fuel:Nat} {a:Addr} {len cap:Nat} {x:DataW H×List MemPlace}
  (hd:DataW.trod enc P W 0 (fun _=>true) true fuel t [.slice (some a) len cap]=some x):a.spot=none∨(len=0∧cap=0):=by
 rcases DataW.trod_slice ht hd with ⟨h1,_⟩ | ⟨a',aFo,Hw,auG,rest,n,_,h1,_,hb,hl,hm,hlen,yK,zf,_⟩
 ·simp at h1
 ·simp only [List.cons.injEq,Value.slice.injEq,Option.some.injEq,and_true] at h1
  obtain ⟨rfl,rfl,rfl⟩:=h1
  by_cases hc:cap=0
  ·exact .inr ⟨by omega,hc⟩
  ·left
   obtain ⟨Q6,hr⟩:=zf rfl
   have kB:∃y,(W.cells? 0 (a.add (0*P.cellsOf e)) (P.cellsOf e)).bind (DataW.trod enc P W 0 (fun _=>true) true n e)=some y:=by
    by_cases bC:0<len
    ·rw [yK 0 bC,getElem?_eq_getElem (by omega)]
     exact ⟨_,rfl⟩
    ·have:=hr (0-len) (by omega)
     rw [show len+(0-len)=0 by omega] at this
     rw [this,getElem?_eq_getElem (by omega)]
     exact ⟨_,rfl⟩
   obtain ⟨y,hy⟩:=kB
   rw [Option.bind_eq_some_iff] at hy
   obtain ⟨cs,h1,_⟩:=hy
   obtain ⟨_,g2,g3⟩:=World.cells?_some h1
   have:=g3 0 (by omega)
   rw [getElem?_eq_getElem (by omega)] at this
   have e1:a.add (0*P.cellsOf e)=a:=by rw [Nat.zero_mul];rfl
   have e2:a.add 0=a:=rfl
   rw [e1,e2] at this
   exact atq this
theorem auH {t e:TypeId} (ht:P.underlying t=some (.slice e)) (jm:P.cellsOf e≠0)
  (flat:∀n cs y,DataW.trod enc P W 0 (fun _=>true) true n e cs=some y→cs.length=P.cellsOf e∧∀x∈cs,fL x=true)
  {fuel:Nat} {v:Value} {x:DataW H×List MemPlace} (hd:DataW.trod enc P W 0 (fun _=>true) true fuel t [v]=some x) (HR:aZ P ρ h W) (kF:pU h):
  ∃(av:aK) (g:ae) (v':Value) (n:Nat) (xs:List Value),ρ.le av∧aZ P av (h++g) W∧pU (h++g)∧ax av v' v∧gy v'=true∧
   (((v'=.slice none 0 0∨v'=.slice none 0 1)∧n=0)∨∃i,v'=sl e i 0 n∧(n=0∨aR (h++g) i=some xs))∧xs.length=n*P.cellsOf e∧(∀y∈xs,fL y=true)∧
   ∀i,i<n→∃m y,DataW.trod enc P W 0 (fun _=>true) true m e ((xs.drop (i*P.cellsOf e)).take (P.cellsOf e))=some y:=by
 by_cases hv:∃a,v=.slice (some a) 0 0∧a.spot≠none
 ·obtain ⟨a,rfl,_⟩:=hv
  exact ⟨ρ,[],.slice none 0 1,0,[],.refl _,by simpa using HR,by simpa using kF,.void a,rfl,.inl ⟨.inr rfl,rfl⟩,by simp,by simp,fun i hi=>by omega⟩
 ·have hs:∀(a:Addr) (len cap:Nat),v=.slice (some a) len cap→a.spot=none:=by
   rintro a len cap rfl
   rcases aD5 ht jm hd with h1 | ⟨rfl,rfl⟩
   ·exact h1
   ·apply byContradiction
    intro hc
    exact hv ⟨a,rfl,hc⟩
  obtain ⟨av,g,v',n,xs,e1,e2,e3,e4,e5,e6,e7⟩:=auI ht jm flat hd hs HR kF
  exact ⟨av,g,v',n,xs,e1,e2,e3,e4,e5,e6.imp (fun ⟨a,b⟩=>⟨.inl a,b⟩) id,e7⟩
end
end
end Go.Sim
namespace Go.Proofs.YtelmdbpaoifmoaaGreat
open Go.Sim
section
section
variable {h : ae} {id : Nat}
abbrev hb (h:ae) (id:Nat) (xs:List UInt8):ae:=h.set id (.arr 5 (xs.map cv))
theorem Is (iG:id<h.length) (xs:List UInt8):(hb h id xs)[id]?=some (.arr 5 (xs.map cv)):=by simp [hb,iG]
theorem ac0 (iG:id<h.length) {xs:List UInt8} {j:Nat} {c:UInt8} (hj:xs[j]?=some c):af false 1 (hb h id xs) (pt id j)=some (cv c):=by
 simp [af,aR,Is iG,cf,hj]
theorem ac1 (iG:id<h.length) {xs:List UInt8} {j:Nat} (c:UInt8) (hj:j<xs.length):aE 1 (hb h id xs) (pt id j) (cv c)=some (undef,hb h id (xs.set j c)):=by
 rw [pW (Is iG xs) (by simpa using hj) rfl rfl]
 simp [hb,List.map_set]
end
end
section
variable (P : Program) (K : VK)
noncomputable section
variable (n0 x2 u3 : Value) (h : ae)
def afU:=bz prog 105 [[],[],[],[0,2,3],[]]
@[irreducible] def Oq:=bI afU
@[irreducible] def aql:=Oq.r.r.r.l
theorem axo:afU=some (20,Oq,[.cell true 2 2]):=by kernel_rfl
def am9 (_P:Program) (K:VK):ar:=aS [.cell true 2 2] K
def JI:Prop:=ay (ak P aql (am9 P K)) [0,2,3] [n0,x2,u3] h
theorem azC:JI P K n0 x2 u3 h=
 (OP (ai .lss n0 (.int .i64 (0))) fun au=>
 OP (dh .u32 u3) fun aA=>
 OP (ai .shr u3 (.int .u64 (32))) fun ba=>
 OP (dh .u32 ba) fun bk=>
 OH (dH 177 2 [(.int .u32 (0))] h [(0,1,aA),(1,1,bk)]) fun bM z1=>
 aj P 118 [bM] z1 fun aP z2=>
 aj P 117 [au,aP] z2 fun aO z3=>
 OH (aE 2 z3 x2 aO) fun _ z4=>
 OP (af true 2 z4 x2) fun r0=>
 K r0 z4):=az (by kernel_rfl)
def My:Prop:=
 OH (aV 105 [(.bool false),(.slice none 0 0)] h) fun x2 z1=>
 OP (dh .u64 n0) fun x5=>
 OP (ai .lss n0 (.int .i64 (0))) fun x7=>
 aQ x7
 (OP (gw .neg x5) fun x9=>
 JI P K n0 x2 x9 z1)
 (JI P K n0 x2 x5 z1)
theorem atY:ak P Oq (aS [.cell true 2 2] K) (bt [n0]) h=My P K n0 h:=by kernel_rfl
theorem f105 {K:VK} {n0:Value} {h:ae} (H:My prog K n0 h):aj prog 105 [n0] h K:=
 bJ axo (bH rfl) ((atY prog K n0 h).mpr H)
end
noncomputable section
variable (a0 b1 : Value) (h : ae)
def afW:=bz prog 107 [[],[]]
@[irreducible] def YM:=bI afW
theorem axq:afW=some (16,YM,[.cell true 2 4]):=by kernel_rfl
def MA:Prop:=
 OH (bm 105 h a0) fun a2 z1=>
 OH (bm 105 z1 b1) fun b3 z2=>
 OH (aV 105 [(.bool false),(.slice none 0 0)] z2) fun x4 z3=>
 OP (aL 0 a2) fun x5=>
 OP (af false 1 z3 x5) fun x6=>
 (True)∧
 OP (aL 0 b3) fun x7=>
 OP (af false 1 z3 x7) fun x8=>
 (True)∧
 OP (tU true x6 x8) fun x9=>
 OP (aL 1 a2) fun aM=>
 OP (af false 1 z3 aM) fun au=>
 (True)∧
 OP (aL 1 b3) fun aB=>
 OP (af false 1 z3 aB) fun aA=>
 (True)∧
 aj P 122 [au,aA] z3 fun aH z4=>
 (af false 1 z4 x5=some x6∧af false 1 z4 x7=some x8∧True)∧
 aj P 117 [x9,aH] z4 fun ba z5=>
 (True)∧
 OH (aE 2 z5 x4 ba) fun _ z6=>
 (True)∧
 OP (af true 2 z6 x4) fun r0=>
 K r0 z6
theorem at0:ak P YM (aS [.cell true 2 4] K) (bt [a0,b1]) h=MA P K a0 b1 h:=by kernel_rfl
theorem f107 {K:VK} {a0 b1:Value} {h:ae} (H:MA prog K a0 b1 h):aj prog 107 [a0,b1] h K:=
 bJ axq (bH rfl) ((at0 prog K a0 b1 h).mpr H)
end
noncomputable section
variable (a0 : Value) (h : ae)
def afY:=bz prog 109 [[],[],[],[],[],[],[]]
@[irreducible] def YU:=bI afY
theorem axs:afY=some (11,YU,[.tmp 2]):=by kernel_rfl
def MC (_:Program) (K:VK) (a0:Value) (h:ae):Prop:=
 OH (bm 105 h a0) fun a1 z1=>
 OP (aL 1 a1) fun x4=>
 OP (af false 1 z1 x4) fun x5=>
 OP (bj x5) fun x6=>
 OP (ai .eql x6 (.int .i64 (0))) fun x7=>
 aQ x7
 (K (.int .i64 (0)) z1)
 (OP (aL 0 a1) fun x9=>
 OP (af false 1 z1 x9) fun aM=>
 aQ aM
 (K (.int .i64 (-1)) z1)
 (K (.int .i64 (1)) z1))
theorem at2:ak P YU (aS [.tmp 2] K) (bt [a0]) h=MC P K a0 h:=by kernel_rfl
theorem f109 {K:VK} {a0:Value} {h:ae} (H:MC prog K a0 h):aj prog 109 [a0] h K:=
 bJ axs (bH rfl) ((at2 prog K a0 h).mpr H)
end
noncomputable section
variable (a0 b1 : Value) (h : ae)
def af0:=bz prog 111 [[],[]]
@[irreducible] def YV:=bI af0
theorem axu:af0=some (9,YV,[.tmp 4]):=by kernel_rfl
def ME:Prop:=
 OH (bm 105 h a0) fun a2 z1=>
 OH (bm 105 z1 b1) fun b3 z2=>
 OP (af true 2 z2 a2) fun x5=>
 OP (af true 2 z2 b3) fun x6=>
 aj P 127 [x5,x6] z2 fun x7 z3=>
 aj P 109 [x7] z3 fun x8 z4=>
 K x8 z4
theorem at4:ak P YV (aS [.tmp 4] K) (bt [a0,b1]) h=ME P K a0 b1 h:=by kernel_rfl
theorem f111 {K:VK} {a0 b1:Value} {h:ae} (H:ME prog K a0 b1 h):aj prog 111 [a0,b1] h K:=
 bJ axu (bH rfl) ((at4 prog K a0 b1 h).mpr H)
end
noncomputable section
variable (n0 : Value) (h : ae)
def af1:=bz prog 112 [[],[]]
@[irreducible] def YW:=bI af1
theorem axv:af1=some (6,YW,[.cell true 4 2]):=by kernel_rfl
def MF:Prop:=
 OH (bm 105 h n0) fun n1 z1=>
 OH (aV 107 [(.bool false),(.slice none 0 0),(.bool false),(.slice none 0 0)] z1) fun x2 z2=>
 OP (af true 2 z2 n1) fun x3=>
 (True)∧
 aj P 105 [(.int .i64 (1))] z2 fun x4 z3=>
 (af true 2 z3 n1=some x3∧True)∧
 OP (dc [(.bool false),(.slice none 0 0),(.bool false),(.slice none 0 0)] [(0,2,x3),(2,2,x4)]) fun x5=>
 OH (aE 4 z3 x2 x5) fun _ z4=>
 (True)∧
 OP (af true 4 z4 x2) fun r0=>
 K r0 z4
theorem at6:ak P YW (aS [.cell true 4 2] K) (bt [n0]) h=MF P K n0 h:=by kernel_rfl
theorem f112 {K:VK} {n0:Value} {h:ae} (H:MF prog K n0 h):aj prog 112 [n0] h K:=
 bJ axv (bH rfl) ((at6 prog K n0 h).mpr H)
end
noncomputable section
variable (a0 b1 : Value) (h : ae)
def af2:=bz prog 113 [[],[],[],[],[],[],[]]
@[irreducible] def YX:=bI af2
theorem axw:af2=some (42,YX,[.cell true 2 4]):=by kernel_rfl
def MG:Prop:=
 OH (bm 105 h a0) fun a2 z1=>
 OH (bm 105 z1 b1) fun b3 z2=>
 OH (aV 105 [(.bool false),(.slice none 0 0)] z2) fun x4 z3=>
 OP (aL 0 a2) fun x6=>
 OP (af false 1 z3 x6) fun x7=>
 OP (aL 0 b3) fun x8=>
 OP (af false 1 z3 x8) fun x9=>
 OP (tU false x7 x9) fun aM=>
 aQ aM
 (OP (aL 0 a2) fun au=>
 OP (af false 1 z3 au) fun aB=>
 (True)∧
 OP (aL 1 a2) fun aA=>
 OP (af false 1 z3 aA) fun aH=>
 (True)∧
 OP (aL 1 b3) fun ba=>
 OP (af false 1 z3 ba) fun bk=>
 (True)∧
 aj P 128 [aH,bk] z3 fun bM z4=>
 (af false 1 z4 au=some aB∧True)∧
 aj P 117 [aB,bM] z4 fun aP z5=>
 (True)∧
 OH (aE 2 z5 x4 aP) fun _ z6=>
 (True)∧
 OP (af true 2 z6 x4) fun r0=>
 K r0 z6)
 (OP (aL 1 a2) fun aW=>
 OP (af false 1 z3 aW) fun aY=>
 OP (aL 1 b3) fun bE=>
 OP (af false 1 z3 bE) fun ck=>
 aj P 126 [aY,ck] z3 fun bu z4=>
 OP (ai .geq bu (.int .i64 (0))) fun bY=>
 aQ bY
 (OP (aL 0 a2) fun cg=>
 OP (af false 1 z4 cg) fun bW=>
 (True)∧
 OP (aL 1 a2) fun cC=>
 OP (af false 1 z4 cC) fun cG=>
 (True)∧
 OP (aL 1 b3) fun dj=>
 OP (af false 1 z4 dj) fun cA=>
 (True)∧
 aj P 129 [cG,cA] z4 fun cO z5=>
 (af false 1 z5 cg=some bW∧True)∧
 aj P 117 [bW,cO] z5 fun dB z6=>
 (True)∧
 OH (aE 2 z6 x4 dB) fun _ z7=>
 (True)∧
 OP (af true 2 z7 x4) fun r0=>
 K r0 z7)
 (OP (aL 0 b3) fun cP=>
 OP (af false 1 z4 cP) fun cZ=>
 (True)∧
 OP (aL 1 b3) fun cT=>
 OP (af false 1 z4 cT) fun fm=>
 (True)∧
 OP (aL 1 a2) fun dC=>
 OP (af false 1 z4 dC) fun eJ=>
 (True)∧
 aj P 129 [fm,eJ] z4 fun dU z5=>
 (af false 1 z5 cP=some cZ∧True)∧
 aj P 117 [cZ,dU] z5 fun ef z6=>
 (True)∧
 OH (aE 2 z6 x4 ef) fun _ z7=>
 (True)∧
 OP (af true 2 z7 x4) fun r0=>
 K r0 z7))
theorem at7:ak P YX (aS [.cell true 2 4] K) (bt [a0,b1]) h=MG P K a0 b1 h:=by kernel_rfl
theorem f113 {K:VK} {a0 b1:Value} {h:ae} (H:MG prog K a0 b1 h):aj prog 113 [a0,b1] h K:=
 bJ axw (bH rfl) ((at7 prog K a0 b1 h).mpr H)
end
noncomputable section
variable (a0 w1 x6 x7 i8 : Value) (L1 : LQ) (xs : List Value) (h : ae)
def af3:=bz prog 114 [[],[],[],[],[0,1,6],[7,8],[],[],[],[],[6,7],[]]
@[irreducible] def Gy:=bI af3
@[irreducible] def aqu:=Gy.r.r.r.l.r.l.l
@[irreducible] def YY:=Gy.r.r.r.r
@[irreducible] def aqt:=YY.l
theorem axx:af3=some (44,Gy,[.tmp 4,.tmp 5]):=by kernel_rfl
def LG (_P:Program) (K:VK):ar:=aS [.tmp 4,.tmp 5] K
def anf:ar:=aF (ak P YY (LG P K)) (LG P K)
def ang:ar:=bN 0 (anf P K)
def anh:ar:=aF (fun f' aT=>(([0,1,6]:List Nat).map f':List Value)=[a0,w1,x6]∧L1 (([7,8]:List Nat).map f') aT) (ang P K)
def ahZ:Prop:=ay (ak P aqu (anh P K a0 w1 x6 L1)) ([0,1,6]++[7,8]) ([a0,w1,x6]++xs) h
def ahY:Prop:=ay (ak P aqt (LG P K)) [6,7] [x6,x7] h
theorem azJ (a0 w1 x6:Value) (L1:LQ) (x7 i8:Value) (h:ae):ahZ P K a0 w1 x6 L1 [x7,i8] h=
 (OP (ai .geq i8 (.int .i64 (0))) fun bM=>
 aQ bM
 (OP (ai .shl x7 (.int .u64 (32))) fun aY=>
 OP (bc 1 a0 i8) fun bu=>
 OP (af false 1 h bu) fun bY=>
 OP (dh .u64 bY) fun cg=>
 OP (ai .or aY cg) fun bW=>
 OP (dh .u64 w1) fun cO=>
 OP (ai .quo bW cO) fun dB=>
 OP (dh .u32 dB) fun cP=>
 OP (dh .u64 w1) fun fm=>
 OP (ai .rem bW fm) fun dC=>
 OP (bc 1 x6 i8) fun eJ=>
 OH (aE 1 h eJ cP) fun _ z1=>
 (True)∧
 OP (ai .sub i8 (.int .i64 (1))) fun aO=>
 ([a0,w1,x6]:List Value)=[a0,w1,x6]∧L1 [dC,aO] z1)
 (ahY P K x6 x7 h)):=az (by kernel_rfl)
theorem azI:ahY P K x6 x7 h=
 (aj P 118 [x6] h fun ef z1=>
 OP (dh .u32 x7) fun bV=>
 K (.tuple #[ef,bV]) z1):=az (by kernel_rfl)
def MH:Prop:=
 OP (bj a0) fun au=>
 OH (mV 177 4 [(.int .u32 (0))] h au au) fun aB z1=>
 OP (bj a0) fun aH=>
 OP (ai .sub aH (.int .i64 (1))) fun ba=>
 cM [(.int .u64 (0)),ba] z1 fun L1 xs hx=>
 ahZ P K a0 w1 aB L1 xs hx
theorem at8:ak P Gy (aS [.tmp 4,.tmp 5] K) (bt [a0,w1]) h=MH P K a0 w1 h:=by kernel_rfl
theorem f114 {K:VK} {a0 w1:Value} {h:ae} (H:MH prog K a0 w1 h):aj prog 114 [a0,w1] h K:=
 bJ axx (bH rfl) ((at8 prog K a0 w1 h).mpr H)
end
noncomputable section
variable (s0 i2 j3 : Value) (L1 : LQ) (xs : List Value) (h : ae)
def af4:=bz prog 115 [[],[0],[2,3],[],[],[]]
@[irreducible] def Ou:=bI af4
@[irreducible] def aqv:=Ou.r.l.l
theorem axy:af4=some (28,Ou,[]):=by kernel_rfl
def ani (_P:Program) (K:VK):ar:=aS [] K
def anj:ar:=bN 0 (ani P K)
def ank:ar:=aF (fun f' aT=>(([0]:List Nat).map f':List Value)=[s0]∧L1 (([2,3]:List Nat).map f') aT) (anj P K)
def ah0:Prop:=ay (ak P aqv (ank P K s0 L1)) ([0]++[2,3]) ([s0]++xs) h
theorem azK (s0:Value) (L1:LQ) (i2 j3:Value) (h:ae):ah0 P K s0 L1 [i2,j3] h=
 (OP (ai .lss i2 j3) fun x9=>
 aQ x9
 (OP (bc 1 s0 j3) fun aW=>
 OP (af false 1 h aW) fun aY=>
 (True)∧
 OP (bc 1 s0 i2) fun bu=>
 OP (af false 1 h bu) fun bY=>
 (True)∧
 OP (bc 1 s0 i2) fun cg=>
 OH (aE 1 h cg aY) fun _ z1=>
 (True)∧
 OP (bc 1 s0 j3) fun bW=>
 OH (aE 1 z1 bW bY) fun _ z2=>
 (True)∧
 OP (ai .add i2 (.int .i64 (1))) fun au=>
 OP (ai .sub j3 (.int .i64 (1))) fun aA=>
 ([s0]:List Value)=[s0]∧L1 [au,aA] z2)
 (K (.tuple #[]) h)):=az (by kernel_rfl)
def MI:Prop:=
 OP (bj s0) fun x5=>
 OP (ai .sub x5 (.int .i64 (1))) fun x6=>
 cM [(.int .i64 (0)),x6] h fun L1 xs hx=>
 ah0 P K s0 L1 xs hx
theorem at9:ak P Ou (aS [] K) (bt [s0]) h=MI P K s0 h:=by kernel_rfl
theorem f115 {K:VK} {s0:Value} {h:ae} (H:MI prog K s0 h):aj prog 115 [s0] h K:=
 bJ axy (bH rfl) ((at9 prog K s0 h).mpr H)
end
noncomputable section
variable (x0 x1 x4 x6 x9 : Value) (h : ae)
def af6:=bz prog 117 [[],[1,4,6],[1,4,6,9],[]]
@[irreducible] def Gz:=bI af6
@[irreducible] def Y0:=Gz.r.l.r.l
@[irreducible] def aqw:=Gz.r.r
@[irreducible] def aqx:=Y0.r.l
theorem axA:af6=some (13,Gz,[.cell true 2 4]):=by kernel_rfl
def WO (_P:Program) (K:VK):ar:=aS [.cell true 2 4] K
def WQ:ar:=aF (ak P aqw (WO P K)) (WO P K)
def ah1:Prop:=ay (ak P Y0 (WQ P K)) [1,4,6] [x1,x4,x6] h
def EK:Prop:=ay (ak P aqx (WQ P K)) [1,4,6,9] [x1,x4,x6,x9] h
theorem akC:EK P K x1 x4 x6 x9 h=
 (OP (bP x6 x9 (.bool false)) fun aM=>
 OP (dc [(.bool false),(.slice none 0 0)] [(0,1,aM),(1,1,x1)]) fun aB=>
 OH (aE 2 h x4 aB) fun _ z1=>
 OP (af true 2 z1 x4) fun r0=>
 K r0 z1):=az (by kernel_rfl)
theorem azL:ah1 P K x1 x4 x6 h=
 (cm x6 true
 (OP (bj x1) fun x8=>
 OP (ai .gtr x8 (.int .i64 (0))) fun x9=>
 EK P K x1 x4 x6 x9 h)
 (EK P K x1 x4 x6 undef h)):=az (by kernel_rfl)
def MK:Prop:=
 OH (aV 105 [(.bool false),(.slice none 0 0)] h) fun x4 z1=>
 ah1 P K x1 x4 x0 z1
theorem aub:ak P Gz (aS [.cell true 2 4] K) (bt [x0,x1]) h=MK P K x0 x1 h:=by kernel_rfl
theorem f117 {K:VK} {x0 x1:Value} {h:ae} (H:MK prog K x0 x1 h):aj prog 117 [x0,x1] h K:=
 bJ axA (bH rfl) ((aub prog K x0 x1 h).mpr H)
end
noncomputable section
variable (x0 x6 aA : Value) (L1 : LQ) (xs : List Value) (h : ae)
def af7:=bz prog 118 [[],[],[0],[0,6],[0,6,13],[],[],[0],[]]
@[irreducible] def GA:=bI af7
@[irreducible] def GB:=GA.r.l.l.l
@[irreducible] def Y1:=GA.r.r
@[irreducible] def Y2:=GB.l.l.r.l
@[irreducible] def aqB:=GB.l.r
@[irreducible] def aqA:=GB.r
@[irreducible] def aqz:=Y1.l
@[irreducible] def aqy:=Y2.r.l
theorem axB:af7=some (21,GA,[.tmp 2]):=by kernel_rfl
def LH (_P:Program) (K:VK):ar:=aS [.tmp 2] K
def anl:ar:=aF (ak P Y1 (LH P K)) (LH P K)
def anm:ar:=bN 0 (anl P K)
def LI:ar:=aF (fun f' aT=>(([]:List Nat).map f':List Value)=[]∧L1 (([0]:List Nat).map f') aT) (anm P K)
def WR:ar:=aF (ak P aqA (LI P K L1)) (LI P K L1)
def WS:ar:=aF (ak P aqB (WR P K L1)) (WR P K L1)
def ah2:Prop:=ay (ak P GB (LI P K L1)) ([]++[0]) ([]++xs) h
def ah3:Prop:=ay (ak P Y2 (WS P K L1)) [0,6] [x0,x6] h
def SX:Prop:=ay (ak P aqy (WS P K L1)) [0,6,13] [x0,x6,aA] h
def SY:Prop:=ay (ak P aqz (LH P K)) [0] [x0] h
theorem akD:SX P K x0 x6 aA L1 h=
 (OP (bP x6 aA (.bool false)) fun aH=>
 aQ aH
 (OP (bj x0) fun bM=>
 OP (ai .sub bM (.int .i64 (1))) fun aP=>
 OP (mo 177 1 x0 none (some aP)) fun aO=>
 ([]:List Value)=[]∧L1 [aO] h)
 (SY P K x0 h)):=az (by kernel_rfl)
theorem akE:ah3 P K x0 x6 L1 h=
 (cm x6 true
 (OP (bj x0) fun x9=>
 OP (ai .sub x9 (.int .i64 (1))) fun aM=>
 OP (bc 1 x0 aM) fun au=>
 OP (af false 1 h au) fun aB=>
 OP (ai .eql aB (.int .u32 (0))) fun aA=>
 SX P K x0 x6 aA L1 h)
 (SX P K x0 x6 undef L1 h)):=az (by kernel_rfl)
theorem azN (L1:LQ) (x0:Value) (h:ae):ah2 P K L1 [x0] h=
 (OP (bj x0) fun x4=>
 OP (ai .gtr x4 (.int .i64 (0))) fun x5=>
 ah3 P K x0 x5 L1 h):=az (by kernel_rfl)
theorem azM:SY P K x0 h=
 (K x0 h):=az (by kernel_rfl)
def X2:Prop:=
 cM [x0] h fun L1 xs hx=>
 ah2 P K L1 xs hx
theorem auc:ak P GA (aS [.tmp 2] K) (bt [x0]) h=X2 P K x0 h:=by kernel_rfl
theorem f118 {K:VK} {x0:Value} {h:ae} (H:X2 prog K x0 h):aj prog 118 [x0] h K:=
 bJ axB (bH rfl) ((auc prog K x0 h).mpr H)
end
noncomputable section
variable (a0 : Value) (h : ae)
def af8:=bz prog 119 [[],[]]
@[irreducible] def Y3:=bI af8
theorem axC:af8=some (9,Y3,[.cell true 2 2]):=by kernel_rfl
def ML:Prop:=
 OH (bm 105 h a0) fun a1 z1=>
 OH (aV 105 [(.bool false),(.slice none 0 0)] z1) fun x2 z2=>
 OP (aL 0 a1) fun x3=>
 OP (af false 1 z2 x3) fun x4=>
 OP (gw .not x4) fun x5=>
 OP (aL 1 a1) fun x6=>
 OP (af false 1 z2 x6) fun x7=>
 aj P 117 [x5,x7] z2 fun x8 z3=>
 OH (aE 2 z3 x2 x8) fun _ z4=>
 OP (af true 2 z4 x2) fun r0=>
 K r0 z4
theorem aud:ak P Y3 (aS [.cell true 2 2] K) (bt [a0]) h=ML P K a0 h:=by kernel_rfl
theorem f119 {K:VK} {a0:Value} {h:ae} (H:ML prog K a0 h):aj prog 119 [a0] h K:=
 bJ axC (bH rfl) ((aud prog K a0 h).mpr H)
end
noncomputable section
variable (a0 b1 x5 i6 x7 x8 aP aO aW bY cg bW : Value) (L1 L2 : LQ) (xs : List Value) (h : ae)
def agb:=bz prog 122 [[],[],[],[1,5,18,19],[20],[],[],[],[],[],[1,5,6,7,18,19,20,25,26],[8,27],[],[],[],[],[],[1,5,6,8,18,19,20],[1,5,18,19,20],[5],[]]
@[irreducible] def GD:=bI agb
@[irreducible] def GF:=GD.r.r.l.r.l.l
@[irreducible] def Y8:=GD.r.r.r
@[irreducible] def aqH:=GF.r.r.l.l.r.r.l.r.l.l
@[irreducible] def Y7:=GF.r.r.l.l.r.r.r
@[irreducible] def Y9:=GF.r.r.r
@[irreducible] def aqK:=Y8.l
@[irreducible] def aqI:=Y7.l
@[irreducible] def aqJ:=Y9.l
theorem axF:agb=some (68,GD,[.tmp 4]):=by kernel_rfl
def LN (_P:Program) (K:VK):ar:=aS [.tmp 4] K
def ant:ar:=aF (ak P Y8 (LN P K)) (LN P K)
def anu:ar:=bN 0 (ant P K)
def FJ:ar:=aF (fun f' aT=>(([1,5,18,19]:List Nat).map f':List Value)=[b1,x5,aP,aO]∧L1 (([20]:List Nat).map f') aT) (anu P K)
def anv:ar:=aF (ak P Y9 (FJ P K b1 x5 aP aO L1)) (FJ P K b1 x5 aP aO L1)
def LO:ar:=bN 1 (anv P K b1 x5 aP aO L1)
def anq:ar:=aF (ak P Y7 (LO P K b1 x5 aP aO L1)) (LO P K b1 x5 aP aO L1)
def anr:ar:=bN 2 (anq P K b1 x5 aP aO L1)
def ans:ar:=aF (fun f' aT=>(([1,5,6,7,18,19,20,25,26]:List Nat).map f':List Value)=[b1,x5,i6,x7,aP,aO,aW,bY,cg]∧L2 (([8,27]:List Nat).map f') aT) (anr P K b1 x5 aP aO L1)
def aib:Prop:=ay (ak P GF (FJ P K b1 x5 aP aO L1)) ([1,5,18,19]++[20]) ([b1,x5,aP,aO]++xs) h
def ah7:Prop:=ay (ak P aqH (ans P K b1 x5 i6 x7 aP aO aW bY cg L1 L2)) ([1,5,6,7,18,19,20,25,26]++[8,27]) ([b1,x5,i6,x7,aP,aO,aW,bY,cg]++xs) h
def ah8:Prop:=ay (ak P aqI (LO P K b1 x5 aP aO L1)) [1,5,6,8,18,19,20] [b1,x5,i6,x8,aP,aO,aW] h
def ah9:Prop:=ay (ak P aqJ (FJ P K b1 x5 aP aO L1)) [1,5,18,19,20] [b1,x5,aP,aO,aW] h
def aia:Prop:=ay (ak P aqK (LN P K)) [5] [x5] h
theorem azT (b1 x5 i6 x7 aP aO aW bY cg:Value) (L1 L2:LQ) (x8 bW:Value) (h:ae):ah7 P K b1 x5 i6 x7 aP aO aW bY cg L1 L2 [x8,bW] h=
 (OP (ai .lss bW cg) fun cC=>
 aQ cC
 (OP (bc 1 bY bW) fun dj=>
 OP (af false 1 h dj) fun cA=>
 OP (dh .u64 x7) fun dB=>
 OP (dh .u64 cA) fun cZ=>
 OP (ai .mul dB cZ) fun cT=>
 OP (ai .add i6 bW) fun dU=>
 OP (bc 1 x5 dU) fun ef=>
 OP (af false 1 h ef) fun eL=>
 OP (dh .u64 eL) fun bV=>
 OP (ai .add cT bV) fun bG=>
 OP (ai .add bG x8) fun dm=>
 OP (ai .add i6 bW) fun bS=>
 OP (dh .u32 dm) fun cX=>
 OP (ai .shr dm (.int .u64 (32))) fun df=>
 OP (bc 1 x5 bS) fun gD=>
 OH (aE 1 h gD cX) fun _ z1=>
 OP (ai .add bW (.int .i64 (1))) fun iM=>
 ([b1,x5,i6,x7,aP,aO,aW,bY,cg]:List Value)=[b1,x5,i6,x7,aP,aO,aW,bY,cg]∧L2 [df,iM] z1)
 (ah8 P K b1 x5 i6 x8 aP aO aW L1 h)):=az (by kernel_rfl)
theorem azU:ah8 P K b1 x5 i6 x8 aP aO aW L1 h=
 (OP (bj b1) fun kn=>
 OP (ai .add i6 kn) fun fQ=>
 OP (dh .u32 x8) fun ko=>
 OP (bc 1 x5 fQ) fun iY=>
 OH (aE 1 h iY ko) fun _ z1=>
 ah9 P K b1 x5 aP aO aW L1 z1):=az (by kernel_rfl)
theorem azV:ah9 P K b1 x5 aP aO aW L1 h=
 (OP (ai .add aW (.int .i64 (1))) fun gf=>
 ([b1,x5,aP,aO]:List Value)=[b1,x5,aP,aO]∧L1 [gf] h):=az (by kernel_rfl)
theorem azX (b1 x5 aP aO:Value) (L1:LQ) (aW:Value) (h:ae):aib P K b1 x5 aP aO L1 [aW] h=
 (OP (ai .lss aW aO) fun aY=>
 aQ aY
 (OP (bc 1 aP aW) fun ck=>
 OP (af false 1 h ck) fun bu=>
 OP (bj b1) fun cg=>
 cM [(.int .u64 (0)),(.int .i64 (0))] h fun L2 xs hx=>
 ah7 P K b1 x5 aW bu aP aO aW b1 cg L1 L2 xs hx)
 (aia P K x5 h)):=az (by kernel_rfl)
theorem azW:aia P K x5 h=
 (aj P 118 [x5] h fun gh z1=>
 K gh z1):=az (by kernel_rfl)
def MO:Prop:=
 OP (bj a0) fun aA=>
 OP (bj b1) fun ba=>
 OP (ai .add aA ba) fun bk=>
 OH (mV 177 4 [(.int .u32 (0))] h bk bk) fun bM z1=>
 OP (bj a0) fun aO=>
 cM [(.int .i64 (0))] z1 fun L1 xs hx=>
 aib P K b1 bM a0 aO L1 xs hx
theorem aug:ak P GD (aS [.tmp 4] K) (bt [a0,b1]) h=MO P K a0 b1 h:=by kernel_rfl
theorem f122 {K:VK} {a0 b1:Value} {h:ae} (H:MO prog K a0 b1 h):aj prog 122 [a0,b1] h K:=
 bJ axF (bH rfl) ((aug prog K a0 b1 h).mpr H)
end
noncomputable section
variable (a0 b1 i5 : Value) (L1 : LQ) (xs : List Value) (h : ae)
def agh:=bz prog 126 [[],[],[],[],[],[],[],[],[0,1],[5],[],[],[],[],[],[],[],[],[],[]]
@[irreducible] def GJ:=bI agh
@[irreducible] def aqT:=GJ.r.r.l.r.l.l
@[irreducible] def aqU:=GJ.r.r.r
theorem axJ:agh=some (41,GJ,[.tmp 4]):=by kernel_rfl
def WZ (_P:Program) (K:VK):ar:=aS [.tmp 4] K
def anH:ar:=aF (ak P aqU (WZ P K)) (WZ P K)
def anF:ar:=bN 0 (anH P K)
def anG:ar:=aF (fun f' aT=>(([0,1]:List Nat).map f':List Value)=[a0,b1]∧L1 (([5]:List Nat).map f') aT) (anF P K)
def ail:Prop:=ay (ak P aqT (anG P K a0 b1 L1)) ([0,1]++[5]) ([a0,b1]++xs) h
theorem az4 (a0 b1:Value) (L1:LQ) (i5:Value) (h:ae):ail P K a0 b1 L1 [i5] h=
 (OP (ai .geq i5 (.int .i64 (0))) fun aW=>
 aQ aW
 (OP (bc 1 a0 i5) fun bY=>
 OP (af false 1 h bY) fun cg=>
 (True)∧
 OP (bc 1 b1 i5) fun cG=>
 OP (af false 1 h cG) fun dj=>
 (True)∧
 OP (ai .neq cg dj) fun cA=>
 aQ cA
 (OP (bc 1 a0 i5) fun cP=>
 OP (af false 1 h cP) fun cZ=>
 (True)∧
 OP (bc 1 b1 i5) fun dC=>
 OP (af false 1 h dC) fun eJ=>
 (True)∧
 OP (ai .lss cZ eJ) fun dU=>
 aQ dU
 (K (.int .i64 (-1)) h)
 (K (.int .i64 (1)) h))
 (OP (ai .sub i5 (.int .i64 (1))) fun bE=>
 ([a0,b1]:List Value)=[a0,b1]∧L1 [bE] h))
 (K (.int .i64 (0)) h)):=az (by kernel_rfl)
def MS:Prop:=
 OP (bj a0) fun x7=>
 OP (bj b1) fun x9=>
 OP (ai .neq x7 x9) fun aM=>
 aQ aM
 (OP (bj a0) fun aB=>
 OP (bj b1) fun aH=>
 OP (ai .lss aB aH) fun ba=>
 aQ ba
 (K (.int .i64 (-1)) h)
 (K (.int .i64 (1)) h))
 (OP (bj a0) fun bM=>
 OP (ai .sub bM (.int .i64 (1))) fun aP=>
 cM [aP] h fun L1 xs hx=>
 ail P K a0 b1 L1 xs hx)
theorem auk:ak P GJ (aS [.tmp 4] K) (bt [a0,b1]) h=MS P K a0 b1 h:=by kernel_rfl
theorem f126 {K:VK} {a0 b1:Value} {h:ae} (H:MS prog K a0 b1 h):aj prog 126 [a0,b1] h K:=
 bJ axJ (bH rfl) ((auk prog K a0 b1 h).mpr H)
end
noncomputable section
variable (a0 b1 : Value) (h : ae)
def agi:=bz prog 127 [[],[]]
@[irreducible] def Zl:=bI agi
theorem axK:agi=some (9,Zl,[.cell true 2 4]):=by kernel_rfl
def MT:Prop:=
 OH (bm 105 h a0) fun a2 z1=>
 OH (bm 105 z1 b1) fun b3 z2=>
 OH (aV 105 [(.bool false),(.slice none 0 0)] z2) fun x4 z3=>
 OP (af true 2 z3 a2) fun x5=>
 (True)∧
 OP (af true 2 z3 b3) fun x6=>
 (True)∧
 aj P 119 [x6] z3 fun x7 z4=>
 (af true 2 z4 a2=some x5∧True)∧
 aj P 113 [x5,x7] z4 fun x8 z5=>
 (True)∧
 OH (aE 2 z5 x4 x8) fun _ z6=>
 (True)∧
 OP (af true 2 z6 x4) fun r0=>
 K r0 z6
theorem aul:ak P Zl (aS [.cell true 2 4] K) (bt [a0,b1]) h=MT P K a0 b1 h:=by kernel_rfl
theorem f127 {K:VK} {a0 b1:Value} {h:ae} (H:MT prog K a0 b1 h):aj prog 127 [a0,b1] h K:=
 bJ axK (bH rfl) ((aul prog K a0 b1 h).mpr H)
end
noncomputable section
variable (a0 b1 x5 x6 i7 y8 aY bE : Value) (L1 : LQ) (xs : List Value) (h : ae)
def agj:=bz prog 128 [[],[],[0,1],[],[],[],[0,1,5,21],[6,22],[],[],[],[],[],[0,1,5,6,7,8,21,22],[0,1,5,6,21,22],[0,5,6],[],[]]
@[irreducible] def Ox:=bI agj
@[irreducible] def Oz:=Ox.r.r.l
@[irreducible] def Oy:=Oz.r.r.l.r.l.l
@[irreducible] def Zn:=Oz.r.r.r
@[irreducible] def aqV:=Oy.r.r.l.l.r.r.r.l
@[irreducible] def Zm:=Oy.r.r.r
@[irreducible] def aqX:=Zn.l
@[irreducible] def aqW:=Zm.l
theorem axL:agj=some (54,Ox,[.tmp 4]):=by kernel_rfl
def FK (_P:Program) (K:VK):ar:=aS [.tmp 4] K
def anK:ar:=aF (ak P Zn (FK P K)) (FK P K)
def anL:ar:=bN 0 (anK P K)
def FL:ar:=aF (fun f' aT=>(([0,1,5,21]:List Nat).map f':List Value)=[a0,b1,x5,aY]∧L1 (([6,22]:List Nat).map f') aT) (anL P K)
def anI:ar:=aF (ak P Zm (FL P K a0 b1 x5 aY L1)) (FL P K a0 b1 x5 aY L1)
def anJ:ar:=bN 1 (anI P K a0 b1 x5 aY L1)
def JL:Prop:=ay (ak P Oz (FK P K)) [0,1] [a0,b1] h
def aim:Prop:=ay (ak P Oy (FL P K a0 b1 x5 aY L1)) ([0,1,5,21]++[6,22]) ([a0,b1,x5,aY]++xs) h
def JK:Prop:=ay (ak P aqV (anJ P K a0 b1 x5 aY L1)) [0,1,5,6,7,8,21,22] [a0,b1,x5,x6,i7,y8,aY,bE] h
def ain:Prop:=ay (ak P aqW (FL P K a0 b1 x5 aY L1)) [0,1,5,6,21,22] [a0,b1,x5,x6,aY,bE] h
def aio:Prop:=ay (ak P aqX (FK P K)) [0,5,6] [a0,x5,x6] h
theorem az6:JK P K a0 b1 x5 x6 i7 y8 aY bE L1 h=
 (OP (bc 1 a0 i7) fun dC=>
 OP (af false 1 h dC) fun eJ=>
 aj P 133 [eJ,y8,x6] h fun eL z1=>
 OP (b9 0 eL) fun bV=>
 OP (b9 1 eL) fun bG=>
 OP (bc 1 x5 i7) fun cI=>
 OH (aE 1 z1 cI bV) fun _ z2=>
 ain P K a0 b1 x5 bG aY bE L1 z2):=az (by kernel_rfl)
theorem az7:ain P K a0 b1 x5 x6 aY bE L1 h=
 (OP (ai .add bE (.int .i64 (1))) fun dm=>
 ([a0,b1,x5,aY]:List Value)=[a0,b1,x5,aY]∧L1 [x6,dm] h):=az (by kernel_rfl)
theorem az5 (a0 b1 x5 aY:Value) (L1:LQ) (x6 bE:Value) (h:ae):aim P K a0 b1 x5 aY L1 [x6,bE] h=
 (OP (ai .lss bE aY) fun ck=>
 aQ ck
 (OP (bj b1) fun bW=>
 OP (ai .lss bE bW) fun cC=>
 aQ cC
 (OP (bc 1 b1 bE) fun cA=>
 OP (af false 1 h cA) fun cO=>
 JK P K a0 b1 x5 x6 bE cO aY bE L1 h)
 (JK P K a0 b1 x5 x6 bE (.int .u32 (0)) aY bE L1 h))
 (aio P K a0 x5 x6 h)):=az (by kernel_rfl)
theorem az8:aio P K a0 x5 x6 h=
 (OP (bj a0) fun gB=>
 OP (bc 1 x5 gB) fun cD=>
 OH (aE 1 h cD x6) fun _ z1=>
 aj P 118 [x5] z1 fun kP z2=>
 K kP z2):=az (by kernel_rfl)
theorem az9:JL P K a0 b1 h=
 (OP (bj a0) fun bM=>
 OP (ai .add bM (.int .i64 (1))) fun aP=>
 OH (mV 177 4 [(.int .u32 (0))] h aP aP) fun aO z1=>
 OP (bj a0) fun aY=>
 cM [(.int .u32 (0)),(.int .i64 (0))] z1 fun L1 xs hx=>
 aim P K a0 b1 aO aY L1 xs hx):=az (by kernel_rfl)
def MU:Prop:=
 OP (bj a0) fun aM=>
 OP (bj b1) fun aB=>
 OP (ai .lss aM aB) fun aA=>
 aQ aA
 (JL P K b1 a0 h)
 (JL P K a0 b1 h)
theorem aum:ak P Ox (aS [.tmp 4] K) (bt [a0,b1]) h=MU P K a0 b1 h:=by kernel_rfl
theorem f128 {K:VK} {a0 b1:Value} {h:ae} (H:MU prog K a0 b1 h):aj prog 128 [a0,b1] h K:=
 bJ axL (bH rfl) ((aum prog K a0 b1 h).mpr H)
end
noncomputable section
variable (a0 b1 x5 x6 i7 y8 aA aH : Value) (L1 : LQ) (xs : List Value) (h : ae)
def agk:=bz prog 129 [[],[],[],[],[0,1,5,13],[6,14],[],[],[],[],[],[0,1,5,6,7,8,13,14],[0,1,5,6,13,14],[5],[]]
@[irreducible] def GK:=bI agk
@[irreducible] def OA:=GK.r.r.r.l.r.l.l
@[irreducible] def Zp:=GK.r.r.r.r
@[irreducible] def aqY:=OA.r.r.l.l.r.r.r.l
@[irreducible] def Zo:=OA.r.r.r
@[irreducible] def aq0:=Zp.l
@[irreducible] def aqZ:=Zo.l
theorem axM:agk=some (41,GK,[.tmp 4]):=by kernel_rfl
def LS (_P:Program) (K:VK):ar:=aS [.tmp 4] K
def anO:ar:=aF (ak P Zp (LS P K)) (LS P K)
def anP:ar:=bN 0 (anO P K)
def FM:ar:=aF (fun f' aT=>(([0,1,5,13]:List Nat).map f':List Value)=[a0,b1,x5,aA]∧L1 (([6,14]:List Nat).map f') aT) (anP P K)
def anM:ar:=aF (ak P Zo (FM P K a0 b1 x5 aA L1)) (FM P K a0 b1 x5 aA L1)
def anN:ar:=bN 1 (anM P K a0 b1 x5 aA L1)
def air:Prop:=ay (ak P OA (FM P K a0 b1 x5 aA L1)) ([0,1,5,13]++[6,14]) ([a0,b1,x5,aA]++xs) h
def JM:Prop:=ay (ak P aqY (anN P K a0 b1 x5 aA L1)) [0,1,5,6,7,8,13,14] [a0,b1,x5,x6,i7,y8,aA,aH] h
def aip:Prop:=ay (ak P aqZ (FM P K a0 b1 x5 aA L1)) [0,1,5,6,13,14] [a0,b1,x5,x6,aA,aH] h
def aiq:Prop:=ay (ak P aq0 (LS P K)) [5] [x5] h
theorem aAa:JM P K a0 b1 x5 x6 i7 y8 aA aH L1 h=
 (OP (bc 1 a0 i7) fun dj=>
 OP (af false 1 h dj) fun cA=>
 aj P 134 [cA,y8,x6] h fun cP z1=>
 OP (b9 0 cP) fun cZ=>
 OP (b9 1 cP) fun cT=>
 OP (bc 1 x5 i7) fun fm=>
 OH (aE 1 z1 fm cZ) fun _ z2=>
 aip P K a0 b1 x5 cT aA aH L1 z2):=az (by kernel_rfl)
theorem aAb:aip P K a0 b1 x5 x6 aA aH L1 h=
 (OP (ai .add aH (.int .i64 (1))) fun dC=>
 ([a0,b1,x5,aA]:List Value)=[a0,b1,x5,aA]∧L1 [x6,dC] h):=az (by kernel_rfl)
theorem aAd (a0 b1 x5 aA:Value) (L1:LQ) (x6 aH:Value) (h:ae):air P K a0 b1 x5 aA L1 [x6,aH] h=
 (OP (ai .lss aH aA) fun ba=>
 aQ ba
 (OP (bj b1) fun aO=>
 OP (ai .lss aH aO) fun aW=>
 aQ aW
 (OP (bc 1 b1 aH) fun ck=>
 OP (af false 1 h ck) fun bu=>
 JM P K a0 b1 x5 x6 aH bu aA aH L1 h)
 (JM P K a0 b1 x5 x6 aH (.int .u32 (0)) aA aH L1 h))
 (aiq P K x5 h)):=az (by kernel_rfl)
theorem aAc:aiq P K x5 h=
 (aj P 118 [x5] h fun dU z1=>
 K dU z1):=az (by kernel_rfl)
def MV:Prop:=
 OP (bj a0) fun aM=>
 OH (mV 177 4 [(.int .u32 (0))] h aM aM) fun au z1=>
 OP (bj a0) fun aA=>
 cM [(.int .u32 (0)),(.int .i64 (0))] z1 fun L1 xs hx=>
 air P K a0 b1 au aA L1 xs hx
theorem aun:ak P GK (aS [.tmp 4] K) (bt [a0,b1]) h=MV P K a0 b1 h:=by kernel_rfl
theorem f129 {K:VK} {a0 b1:Value} {h:ae} (H:MV prog K a0 b1 h):aj prog 129 [a0,b1] h K:=
 bJ axM (bH rfl) ((aun prog K a0 b1 h).mpr H)
end
noncomputable section
variable (x0 y1 x2 : Value) (h : ae)
def ago:=bz prog 133 [[],[],[],[]]
@[irreducible] def Zt:=bI ago
theorem axQ:ago=some (22,Zt,[.tmp 6,.tmp 7]):=by kernel_rfl
def MY (_:Program) (K:VK) (x0 y1 x2:Value) (h:ae):Prop:=
 OP (dh .u64 x0) fun aM=>
 OP (dh .u64 y1) fun aB=>
 OP (ai .add aM aB) fun aA=>
 OP (dh .u64 x2) fun ba=>
 OP (ai .add aA ba) fun bk=>
 OP (dh .u32 bk) fun aP=>
 OP (ai .shr bk (.int .u64 (32))) fun aW=>
 OP (dh .u32 aW) fun aY=>
 K (.tuple #[aP,aY]) h
theorem aur:ak P Zt (aS [.tmp 6,.tmp 7] K) (bt [x0,y1,x2]) h=MY P K x0 y1 x2 h:=by kernel_rfl
theorem f133 {K:VK} {x0 y1 x2:Value} {h:ae} (H:MY prog K x0 y1 x2 h):aj prog 133 [x0,y1,x2] h K:=
 bJ axQ (bH rfl) ((aur prog K x0 y1 x2 h).mpr H)
end
noncomputable section
variable (x0 y1 x2 : Value) (h : ae)
def agp:=bz prog 134 [[],[],[]]
@[irreducible] def Zu:=bI agp
theorem axR:agp=some (25,Zu,[.tmp 6,.tmp 7]):=by kernel_rfl
def MZ (_:Program) (K:VK) (x0 y1 x2:Value) (h:ae):Prop:=
 OP (ai .sub x0 y1) fun aM=>
 OP (ai .sub aM x2) fun aB=>
 OP (gw .xor x0) fun aH=>
 OP (ai .and aH y1) fun bk=>
 OP (ai .xor x0 y1) fun aO=>
 OP (gw .xor aO) fun aW=>
 OP (ai .and aW aB) fun bE=>
 OP (ai .or bk bE) fun ck=>
 OP (ai .shr ck (.int .u64 (31))) fun bu=>
 K (.tuple #[aB,bu]) h
theorem aus:ak P Zu (aS [.tmp 6,.tmp 7] K) (bt [x0,y1,x2]) h=MZ P K x0 y1 x2 h:=by kernel_rfl
theorem f134 {K:VK} {x0 y1 x2:Value} {h:ae} (H:MZ prog K x0 y1 x2 h):aj prog 134 [x0,y1,x2] h K:=
 bJ axR (bH rfl) ((aus prog K x0 y1 x2 h).mpr H)
end
end
end Go.Proofs.YtelmdbpaoifmoaaGreat
