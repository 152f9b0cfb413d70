/-
  Part 3 of the texts behind a statement of this seat: Sim27, Sim30, Sim31, Sim33, TA, TB, Sim22, Sim28, Sim29, Sim32, TEv, Mp1, THMk1, THMk4, Sim34, TSo, THMk16, THMk17, THMk18, THMk19, Mp2, Sp6, Sp13, THMk10, THMk11, THMk14.
-/
import Derived.Test.YtncaiogfjjepcaaGreatDoorProg
import Derived.KernelRfl
import Derived.Test.YtncaiogfjjepcaaGreatDoorTc2
open Bool (and_eq_true)
open Go.Proofs.Tryz (prog)
open List (dropWhile_cons getElem?_append_left getElem_mem mem_append nil_append)
open Nat (eq_of_beq_eq_true le_refl)
namespace Go.Sim
section
inductive uR (o:Option (List (Value×ae))) (K:Value->ae->Prop):Prop | mk:(∃l,o=some l/\∀p∈l,K p.1 p.2)->uR o K
inductive uK (P:Program) (F:FuncId) (args:List Value) (h:ae) (K:Value->ae->Prop):Prop | mk:GN P F args h K->uK P F args h K
theorem ME (o:Option (List (Value×ae))) (K:Value->ae->Prop):uR o K=∃l,o=some l/\∀p∈l,K p.1 p.2:=propext ⟨λ⟨h⟩=>h,.mk⟩
theorem YW:uK=GN:=funext λ_=>funext λ_=>funext λ_=>funext λ_=>funext λ_=>propext ⟨λ⟨h⟩=>h,.mk⟩
def xm (P:Program) (o:eI) (f:Nat->Value) (h:ae) (K:Value->ae->Prop):Prop:=
 match o with
 | .e (.next it)=>uR (rV h (ev f it)) K
 | .p o=>w5 o (ev f) λv=>K v h
 | .l o=>OP (dJ o (ev f) h) λv=>K v h
 | .e o=>OH (dY o (ev f) h) K
 | .call g args=>aw P g (args.map (ev f)) h K
 | .hK x args=>nj P (ev f x) (args.map (ev f)) h K
theorem apt (P:Program) (o:eI) (f:Nat->Value) (h:ae) (K:Value->ae->Prop):xm P o f h K=ur P o f h K:=by
 cases o with
 | e eo=>cases eo <;> simp only [xm,ur,bY,yQ,ME]
 | _=>simp only [xm,ur,bY,Jf,sN,pw,CI]
def FN (P:Program) (l:List fC) (K:(Nat->Value)->ae->Prop):(Nat->Value)->ae->Prop:=
 List.rec (motive:=λ_=>(Nat->Value)->ae->Prop) (λf h=>K f h) (λo _ ih f h=>xm P o.op f h λv h'=>ih (ck f o.dst v) h') l
theorem agr (P:Program) (l:List fC) (K:(Nat->Value)->ae->Prop):∀(f:Nat->Value) (h:ae),FN P l K f h=ta P l K f h:=by
 induction l with
 | nil=>intro f h;rfl
 | cons o os ih=>
  intro f h
  show xm P o.op f h (λv h'=>FN P os K (ck f o.dst v) h')=_
  rw [apt,ta]
  congr 1
  funext v h'
  exact ih _ _
def HD (P:Program) (g:Option (Nat×Bool)) (l:List fC) (K:(Nat->Value)->ae->Prop) (f:Nat->Value) (h:ae):Prop:=
 match g with
 | none=>FN P l K f h
 | some (s,b)=>b7 (f s) b (vu P l K f h) (K (uv l f) h)
theorem ali (P:Program) (g:Option (Nat×Bool)) (l:List fC) (K:(Nat->Value)->ae->Prop) (f:Nat->Value) (h:ae):HD P g l K f h=Br P g l K f h:=by
 unfold HD Br mU
 split <;> simp only [agr,Qz,CK]
noncomputable def lq (P:Program) (c:dc):aj->(Nat->Value)->ae->Prop:=
 dc.rec (motive:=λ_=>aj->(Nat->Value)->ae->Prop)
  (λK f h=>K .normal f h)
  (λl K f h=>nC P l 0 [] [] (K .normal) f h)
  (λg l K f h=>HD P g l (K .normal) f h)
  (λ_ _ ia ib K f h=>ia (aH (ib K) K) f h)
  (λls _ ic K f h=>ay (ic K) ls (ls.map f) h)
  (λc _ _ ia ib K f h=>aK (ev f c) (ia K f h) (ib K f h))
  (λid _ ic K f h=>ic (bk id K) f h)
  (λks ls _ ic K f h=>bM (ls.map f) h λL xs hx=>ay (ic (aH (λf' aJ=>ks.map f'=ks.map f/\L (ls.map f') aJ) K)) (ks++ls) (ks.map f++xs) hx)
  (λid K f h=>K (.exit id) f h)
  (λK f h=>K .ret f h)
  (λg ls c K f h=>sO P (ev f g) ls (ls.map f) c h (K .normal f)) c
theorem ajc (P:Program) (c:dc):lq P c=iy P c:=by
 induction c with
 | skip=>rfl
 | Ad l=>funext K f h;exact Ar P l 0 [] [] (K .normal) f h
 | ops g l=>funext K f h;exact ali P g l (K .normal) f h
 | seq a b lO mN=>
  funext K f h
  show lq P a (aH (lq P b K) K) f h=iy P a (aH (iy P b K) K) f h
  rw [lO,mN]
 | cut ls c ih=>
  funext K f h
  show ay (lq P c K) ls (ls.map f) h=sV (iy P c K) ls (ls.map f) h
  rw [ih,uM]
 | cond c a b lO mN=>
  funext K f h
  show aK (ev f c) (lq P a K f h) (lq P b K f h)=kz (ev f c) (iy P a K f h) (iy P b K f h)
  rw [lO,mN,Ly]
 | block id c ih=>
  funext K f h
  show lq P c (bk id K) f h=iy P c (bk id K) f h
  rw [ih]
 | loop ks ls c ih=>
  funext K f h
  show bM (ls.map f) h (λL xs hx=>ay (lq P c (aH (λf' aJ=>ks.map f'=ks.map f/\L (ls.map f') aJ) K)) (ks++ls) (ks.map f++xs) hx)=
   rQ (ls.map f) h (λL xs hx=>iy P c (aH (λf' aJ=>ks.map f'=ks.map f/\L (ls.map f') aJ) K) (gI (ks++ls) (ks.map f++xs)) hx)
  rw [ih,MD,uM]
  rfl
 | exit id=>rfl
 | ret=>rfl
 | range g ls c=>
  funext K f h
  show sO P (ev f g) ls (ls.map f) c h (K .normal f)=nT P (ev f g) ls (ls.map f) c h (K .normal f)
  rw [MF]
theorem aeE {P:Program} {F:FuncId} {N:Nat} {ic:dc} {rs:List gL} {hs:Hints} {h:ae} (hc:bJ P F hs=some (N,ic,rs)) {args:List Value} (ha:args.length<=N)
  {K:Value->ae->Prop} (hi:lq P ic (aX rs K) (bG args) h):uK P F args h K:=
 .mk (aiK hc ha (by rw [<-ajc,<-Nb];exact hi))
theorem abJ {l:List (Value×ae)} {K:Value->ae->Prop}:uR (some l) K↔∀p∈l,K p.1 p.2:=by
 rw [ME]
 constructor
 ·rintro ⟨l',h1,h2⟩;cases h1;exact h2
 ·intro h;exact ⟨l,rfl,h⟩
section gc
variable {P : Program} {F : FuncId} {args : List Value} {h : ae}
theorem aeF {K:Value->ae->Prop} {v:Value} (hV:fW λ_=>v) (hc:uK P F args h λu h'=>u=v/\EX h h') (hk:K v h):aw P F args h K:=by
 rw [pw]
 rw [YW] at hc
 refine ⟨_,_,?_,hk⟩
 intro ρ args' w hv H
 refine (hc ρ args' w hv H).mono ?_
 rintro e w' ⟨u,h',v',aq,⟨rfl,hex⟩,rfl,jL,H',T⟩
 have r3:∀k r,ρ k=some r->aq k=some r/\k<h.length/\h'[k]?=h[k]?:=λk r hr=>⟨T.ext k r hr,H.lt hr,hex.2 k (H.lt hr)⟩
 have mt:∀k,k<h.length->(bH h k↔bH h' k):=λk hk=>by unfold bH;rw [hex.2 k hk]
 have tT:∀k,k<h.length->(cZ h k↔cZ h' k):=λk hk=>by unfold cZ;rw [hex.2 k hk]
 have gf:ρ h.length=none:=H.none
 have Gi:∃i,ρ i=aq h'.length:=⟨h.length,by rw [gf,H'.none]⟩
 refine ⟨v',ρ,rfl,hV aq ρ h'.length h.length v' (by rw [gf,H'.none]) jL,⟨?_,?_,H.aT⟩,?_⟩
 ·intro k r hr
  obtain ⟨q1,q2,q3⟩:=r3 k r hr
  obtain ⟨o',cr,jm⟩:=H.obj k r hr
  obtain ⟨o2,pS,vV⟩:=H'.obj k r q1
  rw [q3,cr] at pS
  cases pS
  exact ⟨o',cr,jm.down T.ext vV⟩
 ·intro a b r s ha hb iZ hm hl
  obtain ⟨q1,q2,_⟩:=r3 a r ha
  obtain ⟨p1,p2,_⟩:=r3 b s hb
  exact H'.inj a b r s q1 p1 iZ ((mt a q2).1 hm) ((tT b p2).1 hl)
 ·exact {
   ext:=.refl _
   len:=le_refl _
   fK:=λk r hr=>H.lt hr
   kinds:=λ_ _ h=>h
   fresh:=λk r h1 h2=>by rw [h1] at h2;cases h2
   eP:=T.eP
   ey:=T.ey
   os:=T.os
   tape:=T.tape
   output:=T.output }
end gc
end
section
theorem EX.load {h h':ae} (k:EX h h') {agg:Bool} {n:Nat} {a v:Value} (hl:af agg n h a=some v):af agg n h' a=some v:=by
 unfold af at hl⊢
 split at hl
 ·rename_i i o
  cases hc:bn h i with
  | none=>rw [hc] at hl;cases hl
  | some xs=>rw [hc] at hl;rw [k.cells hc];exact hl
 ·cases hl
theorem mP (i:Nat) (h:i<4611686018427387904):IntKind.wrap .i64 ((i:Int)+1)=((i+1:Nat):Int):=by
 rw [wrap64 (by omega) (by omega)];omega
@[simp] theorem kA (o i k : Nat) : bD o (pt i k) = some (pt i (k + o)) := rfl
@[simp] theorem arQ (i k : Nat) : tN (pt i k) = some (pt i k) := rfl
def cK (b:Nat) (hx:ae) (e:TypeId) (v:Value) (xs:List Value):Prop:=
 (v=.slice none 0 0/\xs=[])∨(∃i,b<=i/\v=sl e i 0 xs.length/\hx[i]?=some (.arr e xs))
theorem M1 {h0 hx:ae} {e:TypeId} {bytes:Nat} {v x z:Value} {xs:List Value} {K:Value->ae->Prop} (o:cK h0.length hx e v xs) (hex:EX h0 hx) (hb:(xs.length+1)*bytes<=140737488355328) (hm:xs.length+1<=maxLen)
  (h1:de x=true) (h2:bK x=[x]) (hk:∀v' cT,EX h0 cT->cK h0.length cT e v' (xs++[x])->K v' cT):
  OH (bq e 1 [z] hx [(0,1,x)]) λa h2=>OH (cE e 1 bytes h2 v a) K:=by
 have e1:bq e 1 [z] hx [(0,1,x)]=some (sl e hx.length 0 1,hx++[.arr e [x]]):=by
  simp [bq,fE,dt,h1,h2,setAt]
 rw [e1]
 simp only [bc]
 have e2:eX (hx++[.arr e [x]]) 1 (sl e hx.length 0 1)=some [x]:=by simp [eX,sl,bn]
 have e3:iM (sl e hx.length 0 1)=some 1:=rfl
 rcases o with ⟨rfl,rfl⟩ | ⟨i,hi,rfl,bA⟩
 ·refine l6 (v:=sl e (hx.length+1) 0 1) (h:=hx++[.arr e [x]]++[.arr e [x]]) ?_ (hk _ _ ((hex.push _).push _) (.inr ⟨hx.length+1,by have:=hex.1;omega,rfl,by simp⟩))
  have hQ:1*bytes<=140737488355328:=by simpa using hb
  have fv:1<=maxLen:=by simpa using hm
  simp only [cE,e2,e3]
  rw [if_neg (by omega),if_pos ⟨hQ,fv⟩]
  simp
 ·have ar:=(ba bA).1
  have hg:(hx++[.arr e [x]])[i]?=some (.arr e xs):=by rw [getElem?_append_left ar];exact bA
  refine l6 (v:=sl e (hx.length+1) 0 (xs.length+1)) (h:=(hx++[ax.arr e [x]]).set i ax.dead++[ax.arr e (xs++[x])]) ?_
   (hk _ _ (((hex.push _).set hi _).push _) (.inr ⟨hx.length+1,by have:=hex.1;omega,by simp,?_⟩))
  ·simp only [cE,e2,e3]
   simp only [sl,hg]
   rw [if_pos ⟨trivial,trivial,by simp,hb,hm⟩,if_neg (by omega)]
   simp
  ·rw [List.getElem?_append_right (by simp)]
   simp
theorem qC {b:Nat} {hx:ae} {e:TypeId} {v:Value} {l:List UInt8} (o:cK b hx e v (l.map cv)):mL hx v=some (S l):=by
 have hm:∀l:List UInt8,(l.map cv).mapM uW=some l:=by
  intro l
  induction l with
  | nil=>rfl
  | cons c l ih=>simp [List.mapM_cons,uW,ih]
 rcases o with ⟨rfl,hx⟩ | ⟨i,hi,rfl,bA⟩
 ·have:l=[]:=by simpa using hx
  subst this
  rfl
 ·by_cases hl:l=[]
  ·subst hl
   simp [mL,eX,sl]
  ·have hn:l.length≠0:=by simpa using hl
   have Gi:¬(l.map cv).length=0:=by simpa using hl
   have ht:((l.map cv).drop 0).take ((l.map cv).length*1)=l.map cv:=by rw [List.drop_zero,Nat.mul_one,List.take_length]
   simp only [mL,eX,sl,if_neg Gi,bn,bA,Option.bind_some]
   rw [if_pos (by omega),ht,Option.bind_some,hm]
   rfl
structure SS (h:ae) (v:Value) (ls:List (List UInt8)):Prop where
 len:aZ v=some (I ls.length)
 get:∀k (hk:k<ls.length),∃i o,aI 1 v (I k)=some (pt i o)/\af false 1 h (pt i o)=some (S ls[k])
theorem SS.mono {h h':ae} {v:Value} {ls:List (List UInt8)} (k:EX h h') (p:SS h v ls):SS h' v ls:=
 ⟨p.len,λj hj=>let ⟨i,o,a,b⟩:=p.get j hj;⟨i,o,a,EX.load k b⟩⟩
theorem SS.sl {h:ae} {e:TypeId} {i:Nat} {ls:List (List UInt8)} (hc:bn h i=some (ls.map S)):SS h (sl e i 0 ls.length) ls:=by
 refine ⟨rfl,λk hk=>⟨i,k,?_,?_⟩⟩
 ·have:(0:Int)<=(k:Int)/\(k:Int)<(ls.length:Int):=by omega
  simp [Go.Sim.sl,aI,this]
 ·simp [af,hc,cU,hk]
theorem min2 (a b:Int):oS false [I a,I b]=some (I (min a b)):=by
 simp only [oS,List.foldlM,max2,Bool.false_eq_true,if_false]
 have:(if b<a then b else a)=min a b:=by split <;> omega
 rw [this]
 rfl
theorem akI (a b:Int):oS true [I a,I b]=some (I (max a b)):=by
 simp only [oS,List.foldlM,max2,if_true]
 have:(if b>a then b else a)=max a b:=by split <;> omega
 rw [this]
 rfl
theorem nO {h:ae} {e:TypeId} {xs:List Value} {j:Nat} {v:Value} (hj:xs[j]?=some v):af false 1 (h++[.arr e xs]) (pt h.length j)=some v:=by
 simp [af,bn,cU,hj]
theorem NS.s7 {h:ae} {v:Value} {l:List Nat} (p:NS h v .i64 (l.map λi:Nat=>(i:Int))) {i:Nat} (hi:i<l.length):∃b o,aI 1 v (I i)=some (pt b o)/\af false 1 h (pt b o)=some (I l[i]):=by
 obtain ⟨b,o,g1,g2⟩:=p.get i (by simpa using hi)
 exact ⟨b,o,g1,by rw [g2];simp⟩
theorem NS.pY {h:ae} {v:Value} {l:List Nat} (p:NS h v .i64 (l.map λi:Nat=>(i:Int))):aZ v=some (I l.length):=by have:=p.len;rwa [List.length_map] at this
theorem tU {h:ae} {d:Nat} {v:Value} (hc:bn h d=some [v]):af false 1 h (pt d 0)=some v:=by
 simp [af,hc,cU]
@[simp] theorem hX (a b : Value) : (#[a, b] : Array Value)[0]? = some a := rfl
@[simp] theorem hY (a b : Value) : (#[a, b] : Array Value)[1]? = some b := rfl
theorem bP {h:ae} {o:ax}:(h++[o])[h.length]?=some o:=by simp
theorem apf (xs:List Value) (o:Nat) (v:Value) (ho:o<xs.length):setAt xs o [v]=xs.set o v:=by
 unfold setAt
 rw [List.set_eq_take_append_cons_drop,if_pos ho]
 simp
theorem lU {h:ae} {i o:Nat} {e:TypeId} {xs:List Value} {v:Value} (hg:h[i]?=some (.arr e xs)) (ho:o<xs.length) (h1:de v=true) (h2:bK v=[v]):bE 1 h (pt i o) v=some (undef,h.set i (.arr e (xs.set o v))):=by
 simp only [bE,oT,hg,h1,h2,apf _ _ _ ho]
 rw [if_pos ⟨trivial,rfl,by omega⟩]
 rfl
theorem cK.one {b:Nat} {hx:ae} {e:TypeId} {v:Value} {xs:List Value} (o:cK b hx e v xs):de v=true/\bK v=[v]:=by
 rcases o with ⟨rfl,_⟩ | ⟨i,_,rfl,_⟩ <;> exact ⟨rfl,rfl⟩
theorem yW {b:Nat} {hx:ae} {e:TypeId} {bytes:Nat} {v x z:Value} {xs:List Value} {K:Value->ae->Prop} (o:cK b hx e v xs) (hb:(xs.length+1)*bytes<=140737488355328) (hm:xs.length+1<=maxLen)
  (h1:de x=true) (h2:bK x=[x]) (hk:∀h1 cT,h1=hx++[.arr e [x]]->cT.length=hx.length+2->(∀d,d<hx.length->(∀n,v≠sl e d 0 n)->cT[d]?=hx[d]?)->cT[hx.length+1]?=some (.arr e (xs++[x]))->OH (some (sl e (hx.length+1) 0 (xs.length+1),cT)) K):
  OH (bq e 1 [z] hx [(0,1,x)]) λa h2=>OH (cE e 1 bytes h2 v a) K:=by
 have e1:bq e 1 [z] hx [(0,1,x)]=some (sl e hx.length 0 1,hx++[.arr e [x]]):=by
  simp [bq,fE,dt,h1,h2,setAt]
 rw [e1]
 simp only [bc]
 have e2:eX (hx++[.arr e [x]]) 1 (sl e hx.length 0 1)=some [x]:=by simp [eX,sl,bn]
 have e3:iM (sl e hx.length 0 1)=some 1:=rfl
 rcases o with ⟨rfl,rfl⟩ | ⟨i,hi,rfl,bA⟩
 ·have hQ:1*bytes<=140737488355328:=by simpa using hb
  have fv:1<=maxLen:=by simpa using hm
  have e4:cE e 1 bytes (hx++[.arr e [x]]) (.slice none 0 0) (sl e hx.length 0 1)=some (sl e (hx.length+1) 0 1,hx++[.arr e [x]]++[.arr e [x]]):=by
   simp only [cE,e2,e3]
   rw [if_neg (by omega),if_pos ⟨hQ,fv⟩]
   simp
  rw [e4]
  refine hk _ _ rfl (by simp) (λd hd _=>by rw [getElem?_append_left (by simp;omega),getElem?_append_left hd]) (by rw [List.getElem?_append_right (by simp)];simp)
 ·have ar:=(ba bA).1
  have hg:(hx++[.arr e [x]])[i]?=some (.arr e xs):=by rw [getElem?_append_left ar];exact bA
  have e4:cE e 1 bytes (hx++[.arr e [x]]) (sl e i 0 xs.length) (sl e hx.length 0 1)=some (sl e (hx.length+1) 0 (xs.length+1),(hx++[ax.arr e [x]]).set i ax.dead++[ax.arr e (xs++[x])]):=by
   simp only [cE,e2,e3]
   simp only [sl,hg]
   rw [if_pos ⟨trivial,trivial,by simp,hb,hm⟩,if_neg (by omega)]
   simp
  rw [e4]
  refine hk _ _ rfl (by simp) (λd hd aU=>?_) (by rw [List.getElem?_append_right (by simp)];simp)
  have vE:i≠d:=by rintro rfl;exact aU _ rfl
  rw [getElem?_append_left (by simp;omega),List.getElem?_set_ne vE,getElem?_append_left hd]
theorem pe {e e':TypeId} {i i' o o' n n':Nat} (h:sl e i o n=sl e' i' o' n'):i=i'/\n=n':=by
 unfold sl at h
 injection h with h1 h2
 injection h1 with h1
 injection h1 with h1
 exact ⟨h1,h2⟩
theorem cK.cI {b:Nat} {g g':ae} {e:TypeId} {v:Value} {xs:List Value} (o:cK b g e v xs) (h:∀d n,v=sl e d 0 n->b<=d->g'[d]?=g[d]?):cK b g' e v xs:=by
 rcases o with ⟨h1,h2⟩ | ⟨i,h1,h2,h3⟩
 ·exact .inl ⟨h1,h2⟩
 ·exact .inr ⟨i,h1,h2,by rw [h i _ h2 h1];exact h3⟩
theorem cK.lt {b:Nat} {g:ae} {e:TypeId} {v:Value} {xs:List Value} {d n:Nat} (o:cK b g e v xs) (h:v=sl e d 0 n):b<=d/\d<g.length/\g[d]?=some (.arr e xs):=by
 rcases o with ⟨h1,_⟩ | ⟨i,h1,h2,h3⟩
 ·rw [h1] at h;cases h
 ·rw [h2] at h
  obtain ⟨rfl,_⟩:=pe h
  exact ⟨h1,(ba h3).1,h3⟩
theorem oc {e:TypeId} {id n j:Nat} (hj:j<n):aI 1 (sl e id 0 n) (I j)=some (pt id j):=by
 have:(0:Int)<=(j:Int)/\(j:Int)<(n:Int):=by omega
 simp [sl,aI,this]
theorem lC {h:ae} {i:Nat} {o o':ax} (hg:h[i]?=some o'):(h.set i o)[i]?=some o:=by
 rw [List.getElem?_set_self (ba hg).1]
theorem PQ {P:Program} {F:FuncId} {cap:Array Value} {args:List Value} {h:ae} {K:Value->ae->Prop} (hF:nu P F=true) (hc:aw P F (args++cap.toList) h K):nj P (.func (.func F) #[] cap) args h K:=by
 rw [pw] at hc
 exact ⟨⟨hF,by simpa using hc⟩⟩
end
section
def IS (h:ae) (e:TypeId) (aT:Nat) (v:Value) (cs:List Value) (n:Nat):Prop:=
 cs.length=n*aT/\((v=.slice none 0 0/\n=0)∨∃i,v=sl e i 0 n/\(n=0∨bn h i=some cs))
theorem IS.mono {h h':ae} {e:TypeId} {aT:Nat} {v:Value} {cs:List Value} {n:Nat} (k:EX h h') (p:IS h e aT v cs n):IS h' e aT v cs n:=
 ⟨p.1,p.2.imp id λ⟨i,a,b⟩=>⟨i,a,b.imp id λb=>k.cells b⟩⟩
def qq (h:ae) (e:TypeId) (k:IntKind) (v:Value) (ns:List Int):Prop:=IS h e 1 v (ns.map (Value.int k)) ns.length
theorem qq.ns {h:ae} {e:TypeId} {k:IntKind} {v:Value} {ns:List Int} (p:qq h e k v ns) (hl:ns.length<=maxLen):NS h v k ns:=by
 rcases p.2 with ⟨rfl,h0⟩ | ⟨i,rfl,hc⟩
 ·have:ns=[]:=List.length_eq_zero_iff.1 h0
  subst this
  exact NS.nil h k
 ·exact NS.sl (hc.imp (λh=>List.length_eq_zero_iff.1 h) id) hl
theorem NS.arr {h:ae} {e:TypeId} {i:Nat} {k:IntKind} {ns:List Int} (hg:h[i]?=some (.arr e (ns.map (Value.int k)))) (hl:ns.length<=maxLen):NS h (Go.Sim.sl e i 0 ns.length) k ns:=NS.sl (.inr (by simp [bn,hg])) hl
end
section
def KP (p:Value->Bool) (h h':ae):Prop:=∀d c r,bn h d=some (c::r)->p c=true->bn h' d=some (c::r)
def RS (h:ae) (e:TypeId) (aT:Nat) (v:Value) (rows:List (List Value)):Prop:=
 (∀r∈rows,r.length=aT)/\((v=.slice none 0 0/\rows=[])∨∃i o,v=sl e i o rows.length/\(rows=[]∨∃pre post,bn h i=some (pre++rows.flatten++post)/\pre.length=o))
section
variable {h h' : ae} {e : TypeId} {aT : Nat} {v : Value} {rows : List (List Value)}
theorem Fw:∀{rows:List (List Value)},(∀r∈rows,r.length=aT)->rows.flatten.length=rows.length*aT
 | [],_=>by simp
 | r::rows,h=>by
  have ih:=Fw (rows:=rows) λx hx=>h x (List.mem_cons_of_mem _ hx)
  simp only [List.flatten_cons,List.length_append,List.length_cons,h r (List.mem_cons_self ..),ih]
  rw [Nat.succ_mul];omega
theorem Qi:∀{rows:List (List Value)},(∀r∈rows,r.length=aT)->∀k (hk:k<rows.length),(rows.flatten.drop (k*aT)).take aT=rows[k]
 | r::rows,h,0,_=>by
  have:=h r (by simp)
  simp only [List.flatten_cons,Nat.zero_mul,List.drop_zero,List.getElem_cons_zero]
  rw [<-this,List.take_left']
  rfl
 | r::rows,h,k+1,hk=>by
  have hr:=h r (by simp)
  have:=Qi (rows:=rows) (λx hx=>h x (by simp [hx])) k (by simpa using hk)
  simp only [List.flatten_cons,List.getElem_cons_succ]
  rw [<-this,show (k+1)*aT=r.length+k*aT by rw [Nat.succ_mul,hr];omega,List.drop_append,List.drop_eq_nil_of_le (by omega),nil_append,show r.length+k*aT-r.length=k*aT by omega]
theorem RS.get (p:RS h e aT v rows) {k:Nat} (hk:k<rows.length):∃i o cs,aI aT v (I k)=some (pt i o)/\bn h i=some cs/\o+aT<=cs.length/\(cs.drop o).take aT=rows[k]:=by
 rcases p.2 with ⟨_,rfl⟩ | ⟨i,o,rfl,rfl | ⟨pre,post,hc,ho⟩⟩
 ·simp at hk
 ·simp at hk
 have hf:=Fw p.1
 have hle:(k+1)*aT<=rows.length*aT:=Nat.mul_le_mul_right _ hk
 rw [Nat.succ_mul] at hle
 refine ⟨i,o+k*aT,_,?_,hc,?_,?_⟩
 ·have:(0:Int)<=(k:Int)/\(k:Int)<(rows.length:Int):=by omega
  simp [sl,aI,this]
 ·simp only [List.length_append,hf];omega
 ·rw [<-Qi p.1 k hk,<-ho,List.append_assoc,List.drop_append,List.drop_eq_nil_of_le (by omega),nil_append,show pre.length+k*aT-pre.length=k*aT by omega]
  rw [List.drop_append_of_le_length (by rw [hf];omega),List.take_append_of_le_length (by rw [List.length_drop,hf];omega)]
theorem aot {i o:Nat} {cs row:List Value} (hc:bn h i=some cs) (hl:o+aT<=cs.length) (ht:(cs.drop o).take aT=row):af true aT h (pt i o)=some (.agg row.toArray):=by
 simp [af,hc,cU,hl,ht]
theorem RS.nil (h:ae) (e:TypeId) (aT:Nat):RS h e aT (.slice none 0 0) []:=⟨λr hr=>by simp at hr,.inl ⟨rfl,rfl⟩⟩
theorem RS.arr {i:Nat} (hw:∀r∈rows,r.length=aT) (hg:h[i]?=some (.arr e rows.flatten)):RS h e aT (sl e i 0 rows.length) rows:=
 ⟨hw,.inr ⟨i,0,rfl,.inr ⟨[],[],by simp [bn,hg],rfl⟩⟩⟩
def jC (b:Nat) (hx:ae) (e:TypeId) (aT:Nat) (v:Value) (rows:List (List Value)):Prop:=
 (∀r∈rows,r.length=aT)/\((v=.slice none 0 0/\rows=[])∨∃i,b<=i/\v=sl e i 0 rows.length/\hx[i]?=some (.arr e rows.flatten))
theorem jC.rs {b:Nat} (o:jC b h e aT v rows):RS h e aT v rows:=by
 rcases o.2 with ⟨rfl,rfl⟩ | ⟨i,_,rfl,hg⟩
 ·exact .nil _ _ _
 ·exact .arr o.1 hg
theorem jC.cI {b:Nat} (o:jC b h e aT v rows) (x:∀d n,v=sl e d 0 n->b<=d->h'[d]?=h[d]?):jC b h' e aT v rows:=
 ⟨o.1,o.2.imp id λ⟨i,h1,h2,h3⟩=>⟨i,h1,h2,by rw [x i _ h2 h1];exact h3⟩⟩
theorem jC.lt {b d n:Nat} (o:jC b h e aT v rows) (hv:v=sl e d 0 n):b<=d/\d<h.length/\h[d]?=some (.arr e rows.flatten):=by
 rcases o.2 with ⟨h1,_⟩ | ⟨i,h1,h2,h3⟩
 ·rw [h1] at hv;cases hv
 ·rw [h2] at hv
  obtain ⟨rfl,_⟩:=pe hv
  exact ⟨h1,(ba h3).1,h3⟩
theorem jC.ex {b:Nat} (o:jC b h e aT v rows) (x:EX h h'):jC b h' e aT v rows:=o.cI λd _ hv _=>x.2 d (o.lt hv).2.1
theorem jC.kp {b:Nat} {p:Value->Bool} (o:jC b h e aT v rows) (hp:∀c r,rows.flatten=c::r->p c=false) (ef:∀d,d<h.length->(∀n,v≠sl e d 0 n)->h'[d]?=h[d]?):KP p h h':=by
 intro d c r h1 h2
 have hd:d<h.length:=by
  apply Classical.byContradiction
  intro cY
  rw [bn,List.getElem?_eq_none (by omega)] at h1
  cases h1
 have aU:∀n,v≠sl e d 0 n:=by
  intro n hv
  have:=(o.lt hv).2.2
  simp only [bn,this] at h1
  cases tb:rows.flatten with
  | nil=>rw [tb] at h1;cases h1
  | cons y ys=>
   rw [tb] at h1
   cases h1
   rw [hp _ _ tb] at h2
   cases h2
 simp only [bn,ef d hd aU] at h1⊢
 exact h1
theorem jC.app {h0:ae} {bytes:Nat} {x:Value} {row zs:List Value} {K:Value->ae->Prop} (o:jC h0.length h e aT v rows) (hex:EX h0 h) (hz:zs.length=aT) (h1:de x=true) (h2:bK x=row) (hr:row.length=aT)
  (hb:(rows.length+1)*bytes<=140737488355328) (hm:rows.length+1<=maxLen)
  (hk:∀v' h',EX h0 h'->(∀d,d<h.length->(∀n,v≠sl e d 0 n)->h'[d]?=h[d]?)->jC h0.length h' e aT v' (rows++[row])->K v' h'):
  OH (bq e 1 zs h [(0,aT,x)]) λa h2=>OH (cE e aT bytes h2 v a) K:=by
 have hw:∀r∈rows++[row],r.length=aT:=by
  intro r ry
  rcases mem_append.1 ry with ry | ry
  ·exact o.1 r ry
  ·rw [List.mem_singleton.1 ry];exact hr
 have e1:bq e 1 zs h [(0,aT,x)]=some (sl e h.length 0 1,h++[.arr e row]):=by
  have hzr:dt zs 1=zs:=by simp [dt]
  have hs:setAt zs 0 row=row:=by
   unfold setAt
   rw [List.take_zero,nil_append,List.drop_eq_nil_of_le (by omega),List.append_nil]
  simp only [bq,hzr,fE,h1,h2,hs]
  rw [if_pos ⟨trivial,hr,by omega⟩]
  rfl
 rw [e1]
 simp only [bc]
 have e2:eX (h++[.arr e row]) aT (sl e h.length 0 1)=some row:=by
  simp [eX,sl,bn,hr]
  rw [<-hr,List.take_length]
 have e3:iM (sl e h.length 0 1)=some 1:=rfl
 rcases o.2 with ⟨rfl,rfl⟩ | ⟨i,hi,rfl,bA⟩
 ·refine l6 (v:=sl e (h.length+1) 0 1) (h:=h++[.arr e row]++[.arr e row]) ?_ (hk _ _ ((hex.push _).push _) (λd hd _=>by rw [getElem?_append_left (by simp;omega),getElem?_append_left hd]) ⟨hw,.inr ⟨h.length+1,by have:=hex.1;omega,rfl,by simp⟩⟩)
  have hQ:1*bytes<=140737488355328:=by simpa using hb
  have fv:1<=maxLen:=by simpa using hm
  simp only [cE,e2,e3]
  rw [if_neg (by omega),if_pos ⟨hQ,fv⟩]
  simp
 ·have ar:=(ba bA).1
  have hg:(h++[.arr e row])[i]?=some (.arr e rows.flatten):=by rw [getElem?_append_left ar];exact bA
  refine l6 (v:=sl e (h.length+1) 0 (rows.length+1)) (h:=(h++[ax.arr e row]).set i ax.dead++[ax.arr e (rows.flatten++row)]) ?_
   (hk _ _ (((hex.push _).set hi _).push _) (λd hd aU=>?_) ⟨hw,.inr ⟨h.length+1,by have:=hex.1;omega,by simp,?_⟩⟩)
  ·simp only [cE,e2,e3]
   simp only [sl,hg]
   rw [if_pos ⟨trivial,trivial,by rw [Nat.zero_add];exact Fw o.1,hb,hm⟩,if_neg (by omega)]
   simp
  ·have vE:i≠d:=by rintro rfl;exact aU _ rfl
   rw [getElem?_append_left (by simp;omega),List.getElem?_set_ne vE,getElem?_append_left hd]
  ·rw [List.getElem?_append_right (by simp)]
   simp
end
end
end Go.Sim
namespace Go.Proofs.YtncaiogfjjepcaaGreatDoor
open Go.Sim
section
variable (P : Program) (K : VK)
noncomputable section
variable (x0 i5 v6 j7 w8 aF aQ aM bu bC bI dp a9 : Value) (L1 L2 : LQ) (xs : List Value) (h : ae)
def TJ:=bJ prog 5 [[],[],[],[],[],[],[0,14,15],[16],[],[],[],[],[0,5,6,14,15,16,21,22],[23],[],[],[],[0,5,6,7,8,14,15,16,21,22,23,31],[0,5,6,7,14,15,16,21,22,23,31,34],[],[],[],[0,14,15,16],[],[]]
@[irreducible] def c5:=bU TJ
@[irreducible] def ER:=c5.r.r.l.r.l.l
@[irreducible] def ad8:=c5.r.r.r
@[irreducible] def zF:=ER.r.r.l.l.r.r.l.l
@[irreducible] def Ph:=ER.r.r.r
@[irreducible] def Pj:=zF.r.r.l.l.r.l.r.l
@[irreducible] def ad5:=zF.r.r.l.l.r.r
@[irreducible] def ad4:=zF.r.r.r
@[irreducible] def ad7:=Ph.l
@[irreducible] def ad6:=Pj.r.l
theorem k5:TJ=some (41,c5,[.tmp 2,.tmp 3]):=by kernel_rfl
def Mr (_P:Program) (K:VK):aj:=aX [.tmp 2,.tmp 3] K
def aaW:aj:=aH (ah P ad8 (Mr P K)) (Mr P K)
def aaX:aj:=bk 0 (aaW P K)
def yL:aj:=aH (λf' aJ=>(([0,14,15]:List Nat).map f':List Value)=[x0,aF,aQ]/\L1 (([16]:List Nat).map f') aJ) (aaX P K)
def aaS:aj:=aH (ah P Ph (yL P K x0 aF aQ L1)) (yL P K x0 aF aQ L1)
def aaT:aj:=bk 1 (aaS P K x0 aF aQ L1)
def aaU:aj:=bk 2 (aaT P K x0 aF aQ L1)
def Da:aj:=aH (λf' aJ=>(([0,5,6,14,15,16,21,22]:List Nat).map f':List Value)=[x0,i5,v6,aF,aQ,aM,bu,bC]/\L2 (([23]:List Nat).map f') aJ) (aaU P K x0 aF aQ L1)
def aaV:aj:=aH (ah P ad4 (Da P K x0 i5 v6 aF aQ aM bu bC L1 L2)) (Da P K x0 i5 v6 aF aQ aM bu bC L1 L2)
def Ms:aj:=bk 3 (aaV P K x0 i5 v6 aF aQ aM bu bC L1 L2)
def Mt:aj:=aH (ah P ad5 (Ms P K x0 i5 v6 aF aQ aM bu bC L1 L2)) (Ms P K x0 i5 v6 aF aQ aM bu bC L1 L2)
def VQ:Prop:=ay (ah P ER (yL P K x0 aF aQ L1)) ([0,14,15]++[16]) ([x0,aF,aQ]++xs) h
def VN:Prop:=ay (ah P zF (Da P K x0 i5 v6 aF aQ aM bu bC L1 L2)) ([0,5,6,14,15,16,21,22]++[23]) ([x0,i5,v6,aF,aQ,aM,bu,bC]++xs) h
def VO:Prop:=ay (ah P Pj (Mt P K x0 i5 v6 aF aQ aM bu bC L1 L2)) [0,5,6,7,8,14,15,16,21,22,23,31] [x0,i5,v6,j7,w8,aF,aQ,aM,bu,bC,bI,dp] h
def IZ:Prop:=ay (ah P ad6 (Mt P K x0 i5 v6 aF aQ aM bu bC L1 L2)) [0,5,6,7,14,15,16,21,22,23,31,34] [x0,i5,v6,j7,aF,aQ,aM,bu,bC,bI,dp,a9] h
def VP:Prop:=ay (ah P ad7 (yL P K x0 aF aQ L1)) [0,14,15,16] [x0,aF,aQ,aM] h
theorem W3:IZ P K x0 i5 v6 j7 aF aQ aM bu bC bI dp a9 L1 L2 h=
 (OP (cA dp a9 (.bool false)) λbB=>
 aK bB
 (OH (bq 3 2 [(.int .i64 (0))] h [(0,1,i5),(1,1,j7)]) λeQ z1=>
 K (.tuple #[eQ,(.int .i64 (0))]) z1)
 (OP (ai .add bI (.int .i64 (1))) λdL=>
 ([x0,i5,v6,aF,aQ,aM,bu,bC]:List Value)=[x0,i5,v6,aF,aQ,aM,bu,bC]/\L2 [dL] h)):=az (by kernel_rfl)
theorem anA:VO P K x0 i5 v6 j7 w8 aF aQ aM bu bC bI dp L1 L2 h=
 (b7 dp true
 (aw P 14 [w8,v6] h λa9 z1=>
 IZ P K x0 i5 v6 j7 aF aQ aM bu bC bI dp a9 L1 L2 z1)
 (IZ P K x0 i5 v6 j7 aF aQ aM bu bC bI dp undef L1 L2 h)):=az (by kernel_rfl)
theorem anz (x0 i5 v6 aF aQ aM bu bC:Value) (L1 L2:LQ) (bI:Value) (h:ae):VN P K x0 i5 v6 aF aQ aM bu bC L1 L2 [bI] h=
 (OP (ai .lss bI bC) λbj=>
 aK bj
 (OP (aI 1 bu bI) λaO=>
 OP (af false 1 h aO) λaP=>
 OP (ai .neq i5 bI) λdR=>
 VO P K x0 i5 v6 bI aP aF aQ aM bu bC bI dR L1 L2 h)
 (VP P K x0 aF aQ aM L1 h)):=az (by kernel_rfl)
theorem anB:VP P K x0 aF aQ aM L1 h=
 (OP (ai .add aM (.int .i64 (1))) λct=>
 ([x0,aF,aQ]:List Value)=[x0,aF,aQ]/\L1 [ct] h):=az (by kernel_rfl)
theorem anC (x0 aF aQ:Value) (L1:LQ) (aM:Value) (h:ae):VQ P K x0 aF aQ L1 [aM] h=
 (OP (ai .lss aM aQ) λbz=>
 aK bz
 (OP (aI 1 aF aM) λbo=>
 OP (af false 1 h bo) λbp=>
 OP (aZ x0) λbC=>
 bM [(.int .i64 (0))] h λL2 xs hx=>
 VN P K x0 aM bp aF aQ aM x0 bC L1 L2 xs hx)
 (K (.tuple #[(.slice none 0 0),(.int .i64 (5))]) h)):=az (by kernel_rfl)
def T5:Prop:=
 aw P 13 [x0,(.string ⟨#[]⟩)] h λbw z1=>
 OP (ai .neq bw (.int .i64 (0))) λaW=>
 aK aW
 (K (.tuple #[(.slice none 0 0),bw]) z1)
 (OP (aZ x0) λaQ=>
 bM [(.int .i64 (0))] z1 λL1 xs hx=>
 VQ P K x0 x0 aQ L1 xs hx)
theorem e5:ah P c5 (aX [.tmp 2,.tmp 3] K) (bG [x0]) h=T5 P K x0 h:=by kernel_rfl
theorem f5 {K:VK} {x0:Value} {h:ae} (H:T5 prog K x0 h):aw prog 5 [x0] h K:=
 bW k5 (bT rfl) ((e5 prog K x0 h).mpr H)
end
noncomputable section
variable (x0 x5 x6 i7 v8 pg aR aN aO aP aS ca a9 bB eE gr gw b9 dS km sy : Value) (L1 L2 L3 : LQ) (xs : List Value) (h : ae)
def TQ:=bJ prog 6 [[],[],[],[],[],[],[],[],[0,5,6,26,27],[28],[],[],[],[],[0,5,6,7,8,26,27,28,33,34],[35],[],[],[],[0,5,6,7,8,10,26,27,28,33,34,35,43],[0,5,6,7,8,10,26,27,28,33,34,35,43,46],[],[0,5,6,7,8,26,27,28,33,34,35],[0,5,6,26,27,28],[0,5,6],[],[0,5,6],[11],[],[],[],[],[0,5,6,59,60],[11,61],[],[],[],[],[0,5,6,13,59,60,61,65,66],[11,67],[],[],[],[],[],[],[0,5,6,11,13,59,60,61,65,66,67,91],[0,5,6,13,59,60,61,65,66,67,91,92],[],[0,5,6,11,13,59,60,61,65,66,67],[0,5,6,11,59,60,61],[5],[],[],[],[],[]]
@[irreducible] def c6:=bU TQ
@[irreducible] def ET:=c6.r.r.r.r.l.r.l.l
@[irreducible] def PC:=c6.r.r.r.r.r
@[irreducible] def zK:=ET.r.r.l.l.r.r.l.l
@[irreducible] def Pw:=ET.r.r.r
@[irreducible] def EU:=PC.l
@[irreducible] def Py:=zK.r.r.l.l.r.l.r.l
@[irreducible] def ael:=zK.r.r.l.l.r.r
@[irreducible] def Px:=zK.r.r.r
@[irreducible] def aeo:=Pw.l
@[irreducible] def PA:=EU.l.r.l.l
@[irreducible] def Pz:=EU.r
@[irreducible] def aem:=Py.r.l
@[irreducible] def aen:=Px.l
@[irreducible] def EV:=PA.r.l.r.r.l.l
@[irreducible] def aer:=Pz.l
@[irreducible] def EW:=EV.r.r.l.l.r.r.l.l
@[irreducible] def PB:=EV.r.r.r
@[irreducible] def aeq:=EW.r.r.l.l.r.l.r.r.r.l.r.r.l
@[irreducible] def aep:=EW.r.r.r
@[irreducible] def aru:=PB.l
@[irreducible] def ars:=aeq.r.l
@[irreducible] def art:=aep.l
theorem k6:TQ=some (120,c6,[.tmp 2,.tmp 3]):=by kernel_rfl
def sL (_P:Program) (K:VK):aj:=aX [.tmp 2,.tmp 3] K
def abq:aj:=aH (ah P PC (sL P K)) (sL P K)
def abd:aj:=bk 0 (abq P K)
def yN:aj:=aH (λf' aJ=>(([0,5,6,26,27]:List Nat).map f':List Value)=[x0,x5,x6,aO,aP]/\L1 (([28]:List Nat).map f') aJ) (abd P K)
def abe:aj:=aH (ah P Pw (yN P K x0 x5 x6 aO aP L1)) (yN P K x0 x5 x6 aO aP L1)
def abf:aj:=bk 1 (abe P K x0 x5 x6 aO aP L1)
def abg:aj:=bk 2 (abf P K x0 x5 x6 aO aP L1)
def yO:aj:=aH (λf' aJ=>(([0,5,6,7,8,26,27,28,33,34]:List Nat).map f':List Value)=[x0,x5,x6,i7,v8,aO,aP,aS,ca,a9]/\L2 (([35]:List Nat).map f') aJ) (abg P K x0 x5 x6 aO aP L1)
def abh:aj:=aH (ah P Px (yO P K x0 x5 x6 i7 v8 aO aP aS ca a9 L1 L2)) (yO P K x0 x5 x6 i7 v8 aO aP aS ca a9 L1 L2)
def Mw:aj:=bk 3 (abh P K x0 x5 x6 i7 v8 aO aP aS ca a9 L1 L2)
def Mx:aj:=aH (ah P ael (Mw P K x0 x5 x6 i7 v8 aO aP aS ca a9 L1 L2)) (Mw P K x0 x5 x6 i7 v8 aO aP aS ca a9 L1 L2)
def abi:aj:=aH (ah P Pz (sL P K)) (sL P K)
def abj:aj:=bk 4 (abi P K)
def My:aj:=aH (λf' aJ=>(([0,5,6]:List Nat).map f':List Value)=[x0,x5,x6]/\L1 (([11]:List Nat).map f') aJ) (abj P K)
def abk:aj:=bk 5 (My P K x0 x5 x6 L1)
def abl:aj:=bk 6 (abk P K x0 x5 x6 L1)
def Dg:aj:=aH (λf' aJ=>(([0,5,6,59,60]:List Nat).map f':List Value)=[x0,x5,x6,gw,b9]/\L2 (([11,61]:List Nat).map f') aJ) (abl P K x0 x5 x6 L1)
def abm:aj:=aH (ah P PB (Dg P K x0 x5 x6 gw b9 L1 L2)) (Dg P K x0 x5 x6 gw b9 L1 L2)
def abn:aj:=bk 7 (abm P K x0 x5 x6 gw b9 L1 L2)
def abo:aj:=bk 8 (abn P K x0 x5 x6 gw b9 L1 L2)
def abp:aj:=aH (λf' aJ=>(([0,5,6,13,59,60,61,65,66]:List Nat).map f':List Value)=[x0,x5,x6,aN,gw,b9,dS,km,sy]/\L3 (([11,67]:List Nat).map f') aJ) (abo P K x0 x5 x6 gw b9 L1 L2)
def V3:Prop:=ay (ah P ET (yN P K x0 x5 x6 aO aP L1)) ([0,5,6,26,27]++[28]) ([x0,x5,x6,aO,aP]++xs) h
def V4:Prop:=ay (ah P zK (yO P K x0 x5 x6 i7 v8 aO aP aS ca a9 L1 L2)) ([0,5,6,7,8,26,27,28,33,34]++[35]) ([x0,x5,x6,i7,v8,aO,aP,aS,ca,a9]++xs) h
def V5:Prop:=ay (ah P Py (Mx P K x0 x5 x6 i7 v8 aO aP aS ca a9 L1 L2)) [0,5,6,7,8,10,26,27,28,33,34,35,43] [x0,x5,x6,i7,v8,pg,aO,aP,aS,ca,a9,bB,eE] h
def I2:Prop:=ay (ah P aem (Mx P K x0 x5 x6 i7 v8 aO aP aS ca a9 L1 L2)) [0,5,6,7,8,10,26,27,28,33,34,35,43,46] [x0,x5,x6,i7,v8,pg,aO,aP,aS,ca,a9,bB,eE,gr] h
def BM:Prop:=ay (ah P aen (yO P K x0 x5 x6 i7 v8 aO aP aS ca a9 L1 L2)) [0,5,6,7,8,26,27,28,33,34,35] [x0,x5,x6,i7,v8,aO,aP,aS,ca,a9,bB] h
def V6:Prop:=ay (ah P aeo (yN P K x0 x5 x6 aO aP L1)) [0,5,6,26,27,28] [x0,x5,x6,aO,aP,aS] h
def V7:Prop:=ay (ah P EU (sL P K)) [0,5,6] [x0,x5,x6] h
def V8:Prop:=ay (ah P PA (My P K x0 x5 x6 L1)) ([0,5,6]++[11]) ([x0,x5,x6]++xs) h
def V9:Prop:=ay (ah P EV (Dg P K x0 x5 x6 gw b9 L1 L2)) ([0,5,6,59,60]++[11,61]) ([x0,x5,x6,gw,b9]++xs) h
def alu:Prop:=ay (ah P EW (abp P K x0 x5 x6 aN gw b9 dS km sy L1 L2 L3)) ([0,5,6,13,59,60,61,65,66]++[11,67]) ([x0,x5,x6,aN,gw,b9,dS,km,sy]++xs) h
def Wa:Prop:=ay (ah P aer (sL P K)) [5] [x5] h
theorem W4:I2 P K x0 x5 x6 i7 v8 pg aO aP aS ca a9 bB eE gr L1 L2 h=
 (OP (cA eE gr (.bool false)) λcn=>
 aK cn
 (OP (dN v8) λlD=>
 OP (gh pg (some lD) none) λfB=>
 nj P x6 [fB,pg] h λfJ z1=>
 BM P K x0 x5 x6 i7 v8 aO aP aS ca a9 bB L1 L2 z1)
 (BM P K x0 x5 x6 i7 v8 aO aP aS ca a9 bB L1 L2 h)):=az (by kernel_rfl)
theorem anS:V5 P K x0 x5 x6 i7 v8 pg aO aP aS ca a9 bB eE L1 L2 h=
 (b7 eE true
 (aw P 14 [pg,v8] h λgr z1=>
 I2 P K x0 x5 x6 i7 v8 pg aO aP aS ca a9 bB eE gr L1 L2 z1)
 (I2 P K x0 x5 x6 i7 v8 pg aO aP aS ca a9 bB eE undef L1 L2 h)):=az (by kernel_rfl)
theorem anT:BM P K x0 x5 x6 i7 v8 aO aP aS ca a9 bB L1 L2 h=
 (OP (ai .add bB (.int .i64 (1))) λjR=>
 ([x0,x5,x6,i7,v8,aO,aP,aS,ca,a9]:List Value)=[x0,x5,x6,i7,v8,aO,aP,aS,ca,a9]/\L2 [jR] h):=az (by kernel_rfl)
theorem anR (x0 x5 x6 i7 v8 aO aP aS ca a9:Value) (L1 L2:LQ) (bB:Value) (h:ae):V4 P K x0 x5 x6 i7 v8 aO aP aS ca a9 L1 L2 [bB] h=
 (OP (ai .lss bB a9) λcm=>
 aK cm
 (OP (aI 1 ca bB) λeQ=>
 OP (af false 1 h eQ) λdL=>
 OP (ai .neq i7 bB) λeA=>
 V5 P K x0 x5 x6 i7 v8 dL aO aP aS ca a9 bB eA L1 L2 h)
 (V6 P K x0 x5 x6 aO aP aS L1 h)):=az (by kernel_rfl)
theorem anU:V6 P K x0 x5 x6 aO aP aS L1 h=
 (OP (ai .add aS (.int .i64 (1))) λcf=>
 ([x0,x5,x6,aO,aP]:List Value)=[x0,x5,x6,aO,aP]/\L1 [cf] h):=az (by kernel_rfl)
theorem anQ (x0 x5 x6 aO aP:Value) (L1:LQ) (aS:Value) (h:ae):V3 P K x0 x5 x6 aO aP L1 [aS] h=
 (OP (ai .lss aS aP) λeZ=>
 aK eZ
 (OP (aI 1 aO aS) λdp=>
 OP (af false 1 h dp) λdf=>
 OP (aZ x0) λa9=>
 bM [(.int .i64 (0))] h λL2 xs hx=>
 V4 P K x0 x5 x6 aS df aO aP aS x0 a9 L1 L2 xs hx)
 (V7 P K x0 x5 x6 h)):=az (by kernel_rfl)
theorem anX (x0 x5 x6 gw b9:Value) (L1 L2:LQ) (aR dS:Value) (h:ae):V9 P K x0 x5 x6 gw b9 L1 L2 [aR,dS] h=
 (OP (ai .lss dS b9) λkH=>
 aK kH
 (OP (aI 1 gw dS) λsw=>
 OP (af false 1 h sw) λph=>
 OP (aZ x0) λsy=>
 bM [aR,(.int .i64 (0))] h λL3 xs hx=>
 alu P K x0 x5 x6 ph gw b9 dS x0 sy L1 L2 L3 xs hx)
 (([x0,x5,x6]:List Value)=[x0,x5,x6]/\L1 [aR] h)):=az (by kernel_rfl)
theorem anW (x0 x5 x6:Value) (L1:LQ) (aR:Value) (h:ae):V8 P K x0 x5 x6 L1 [aR] h=
 (aK aR
 (OP (af false 1 h x5) λkl=>
 aw P 17 [kl] h λgw z1=>
 OP (aZ gw) λb9=>
 bM [(.bool false),(.int .i64 (0))] z1 λL2 xs hx=>
 V9 P K x0 x5 x6 gw b9 L1 L2 xs hx)
 (Wa P K x5 h)):=az (by kernel_rfl)
theorem anY:Wa P K x5 h=
 (OP (af false 1 h x5) λxt=>
 OP (jq .str true (.string ⟨#[]⟩) h xt (.string ⟨#[]⟩)) λCx=>
 OP (cd 0 Cx) λapR=>
 OP (cd 1 Cx) λxu=>
 OP (fG .not xu) λxv=>
 aK xv
 (K (.tuple #[(.string ⟨#[]⟩),(.int .i64 (5))]) h)
 (K (.tuple #[apR,(.int .i64 (0))]) h)):=az (by kernel_rfl)
theorem anV:V7 P K x0 x5 x6 h=
 (bM [(.bool true)] h λL1 xs hx=>
 V8 P K x0 x5 x6 L1 xs hx):=az (by kernel_rfl)
def T6:Prop:=
 aw P 13 [x0,(.string ⟨#[]⟩)] h λbp z1=>
 OP (ai .neq bp (.int .i64 (0))) λbC=>
 aK bC
 (K (.tuple #[(.string ⟨#[]⟩),bp]) z1)
 (OH (A2 .str z1) λbj z2=>
 OH (cH 48 [(.map none)] z2) λx5 z3=>
 OH (bE 1 z3 x5 bj) λ_ z4=>
 OP (aZ x0) λaP=>
 bM [(.int .i64 (0))] z4 λL1 xs hx=>
 V3 P K x0 x5 (.func (.func 15) #[] #[x5]) x0 aP L1 xs hx)
theorem e6:ah P c6 (aX [.tmp 2,.tmp 3] K) (bG [x0]) h=T6 P K x0 h:=by kernel_rfl
theorem f6 {K:VK} {x0:Value} {h:ae} (H:T6 prog K x0 h):aw prog 6 [x0] h K:=
 bW k6 (bT rfl) ((e6 prog K x0 h).mpr H)
end
noncomputable section
variable (x0 x1 x7 i8 x9 aP aS eZ : Value) (L1 L2 : LQ) (xs : List Value) (h : ae)
def Ue:=bJ prog 8 [[],[],[],[],[],[],[],[0,1],[7,8],[],[],[],[],[0,1,7,8,9,27,28],[29],[],[],[],[],[0,1,7,8,9,27,28,29],[0,1,7,8,9],[0,1,7,8],[1,7],[]]
@[irreducible] def c8:=bU Ue
@[irreducible] def zP:=c8.r.r.r.l.r.l.l
@[irreducible] def PK:=c8.r.r.r.r
@[irreducible] def PJ:=zP.r.l.l.r.l.r.l.l
@[irreducible] def PH:=zP.r.l.l.r.r
@[irreducible] def PG:=zP.r.r
@[irreducible] def aeC:=PK.l
@[irreducible] def aez:=PJ.r.r.r.l
@[irreducible] def aeA:=PH.l
@[irreducible] def aeB:=PG.l
theorem k8:Ue=some (61,c8,[.tmp 4,.tmp 5]):=by kernel_rfl
def Dj (_P:Program) (K:VK):aj:=aX [.tmp 4,.tmp 5] K
def abH:aj:=aH (ah P PK (Dj P K)) (Dj P K)
def abI:aj:=bk 0 (abH P K)
def yP:aj:=aH (λf' aJ=>(([0,1]:List Nat).map f':List Value)=[x0,x1]/\L1 (([7,8]:List Nat).map f') aJ) (abI P K)
def abE:aj:=aH (ah P PG (yP P K x0 x1 L1)) (yP P K x0 x1 L1)
def Dk:aj:=bk 1 (abE P K x0 x1 L1)
def abF:aj:=aH (ah P PH (Dk P K x0 x1 L1)) (Dk P K x0 x1 L1)
def abG:aj:=bk 2 (abF P K x0 x1 L1)
def MC:aj:=aH (λf' aJ=>(([0,1,7,8,9,27,28]:List Nat).map f':List Value)=[x0,x1,x7,i8,x9,aP,aS]/\L2 (([29]:List Nat).map f') aJ) (abG P K x0 x1 L1)
def I5:Prop:=ay (ah P zP (yP P K x0 x1 L1)) ([0,1]++[7,8]) ([x0,x1]++xs) h
def Wd:Prop:=ay (ah P PJ (MC P K x0 x1 x7 i8 x9 aP aS L1 L2)) ([0,1,7,8,9,27,28]++[29]) ([x0,x1,x7,i8,x9,aP,aS]++xs) h
def BN:Prop:=ay (ah P aez (MC P K x0 x1 x7 i8 x9 aP aS L1 L2)) [0,1,7,8,9,27,28,29] [x0,x1,x7,i8,x9,aP,aS,eZ] h
def We:Prop:=ay (ah P aeA (Dk P K x0 x1 L1)) [0,1,7,8,9] [x0,x1,x7,i8,x9] h
def Wf:Prop:=ay (ah P aeB (yP P K x0 x1 L1)) [0,1,7,8] [x0,x1,x7,i8] h
def Wg:Prop:=ay (ah P aeC (Dj P K)) [1,7] [x1,x7] h
theorem an3:BN P K x0 x1 x7 i8 x9 aP aS eZ L1 L2 h=
 (OP (ai .add eZ (.int .i64 (1))) λcn=>
 ([x0,x1,x7,i8,x9,aP,aS]:List Value)=[x0,x1,x7,i8,x9,aP,aS]/\L2 [cn] h):=az (by kernel_rfl)
theorem an2 (x0 x1 x7 i8 x9 aP aS:Value) (L1 L2:LQ) (eZ:Value) (h:ae):Wd P K x0 x1 x7 i8 x9 aP aS L1 L2 [eZ] h=
 (OP (ai .lss eZ aS) λdR=>
 aK dR
 (OP (aI 1 aP eZ) λdp=>
 OP (af false 1 h dp) λdf=>
 OP (gh x1 none (some i8)) λbB=>
 aw P 22 [bB,df] h λcJ z1=>
 aK cJ
 (OP (af true 2 z1 x9) λeQ=>
 (True)/\
 OP (dN df) λeA=>
 OP (ai .sub i8 eA) λeE=>
 OP (aI 2 x7 eE) λfA=>
 OP (af true 2 z1 fA) λhZ=>
 (True)/\
 aw P 23 [eQ,hZ] z1 λgr z2=>
 (True)/\
 OH (bE 2 z2 x9 gr) λ_ z3=>
 (True)/\
 BN P K x0 x1 x7 i8 x9 aP aS eZ L1 L2 z3)
 (BN P K x0 x1 x7 i8 x9 aP aS eZ L1 L2 z1))
 (We P K x0 x1 x7 i8 x9 L1 h)):=az (by kernel_rfl)
theorem an4:We P K x0 x1 x7 i8 x9 L1 h=
 (OP (af true 2 h x9) λiR=>
 OH (bq 56 1 [(.bool false),(.slice none 0 0)] h [(0,2,iR)]) λgu z1=>
 OH (cE 56 2 32 z1 x7 gu) λlD z2=>
 Wf P K x0 x1 lD i8 L1 z2):=az (by kernel_rfl)
theorem an5:Wf P K x0 x1 x7 i8 L1 h=
 (OP (ai .add i8 (.int .i64 (1))) λaV=>
 ([x0,x1]:List Value)=[x0,x1]/\L1 [x7,aV] h):=az (by kernel_rfl)
theorem an1 (x0 x1:Value) (L1:LQ) (x7 i8:Value) (h:ae):I5 P K x0 x1 L1 [x7,i8] h=
 (OP (dN x1) λbC=>
 OP (ai .leq i8 bC) λbI=>
 aK bI
 (aw P 21 [(.int .i64 (0))] h λaO z1=>
 OH (cH 56 [(.bool false),(.slice none 0 0)] z1) λx9 z2=>
 OH (bE 2 z2 x9 aO) λ_ z3=>
 OP (aZ x0) λaS=>
 bM [(.int .i64 (0))] z3 λL2 xs hx=>
 Wd P K x0 x1 x7 i8 x9 x0 aS L1 L2 xs hx)
 (Wg P K x1 x7 h)):=az (by kernel_rfl)
theorem an6:Wg P K x1 x7 h=
 (OP (dN x1) λfJ=>
 OP (aI 2 x7 fJ) λjR=>
 OP (af true 2 h jR) λcf=>
 aw P 24 [cf] h λcR z1=>
 aw P 25 [cR] z1 λkl z2=>
 OP (cd 0 kl) λgw=>
 OP (cd 1 kl) λb9=>
 K (.tuple #[gw,b9]) z2):=az (by kernel_rfl)
def T8:Prop:=
 aw P 13 [x0,x1] h λaF z1=>
 OP (ai .neq aF (.int .i64 (0))) λaM=>
 aK aM
 (K (.tuple #[(.string ⟨#[]⟩),aF]) z1)
 (aw P 21 [(.int .i64 (1))] z1 λbF z2=>
 OH (bq 56 1 [(.bool false),(.slice none 0 0)] z2 [(0,2,bF)]) λbo z3=>
 bM [bo,(.int .i64 (1))] z3 λL1 xs hx=>
 I5 P K x0 x1 L1 xs hx)
theorem e8:ah P c8 (aX [.tmp 4,.tmp 5] K) (bG [x0,x1]) h=T8 P K x0 x1 h:=by kernel_rfl
theorem f8 {K:VK} {x0 x1:Value} {h:ae} (H:T8 prog K x0 x1 h):aw prog 8 [x0,x1] h K:=
 bW k8 (bT rfl) ((e8 prog K x0 x1 h).mpr H)
end
noncomputable section
variable (x0 x5 aN aF aQ : Value) (L1 : LQ) (xs : List Value) (h : ae)
def SY:=bJ prog 10 [[],[],[],[],[],[],[],[13,14],[5,15],[],[],[],[],[5],[]]
@[irreducible] def yZ:=bU SY
@[irreducible] def ab8:=yZ.r.r.r.l.r.l.l
@[irreducible] def Nh:=yZ.r.r.r.r
@[irreducible] def ab9:=Nh.l
theorem k10:SY=some (31,yZ,[.tmp 2,.tmp 3]):=by kernel_rfl
def CN (_P:Program) (K:VK):aj:=aX [.tmp 2,.tmp 3] K
def Y3:aj:=aH (ah P Nh (CN P K)) (CN P K)
def Y4:aj:=bk 0 (Y3 P K)
def Y2:aj:=aH (λf' aJ=>(([13,14]:List Nat).map f':List Value)=[aN,aF]/\L1 (([5,15]:List Nat).map f') aJ) (Y4 P K)
def Up:Prop:=ay (ah P ab8 (Y2 P K aN aF L1)) ([13,14]++[5,15]) ([aN,aF]++xs) h
def Uq:Prop:=ay (ah P ab9 (CN P K)) [5] [x5] h
theorem alM (aN aF:Value) (L1:LQ) (x5 aQ:Value) (h:ae):Up P K aN aF L1 [x5,aQ] h=
 (OP (ai .lss aQ aF) λaM=>
 aK aM
 (OP (aI 1 aN aQ) λbz=>
 OP (af false 1 h bz) λbF=>
 aw P 29 [bF] h λbu z1=>
 OP (ai .add x5 bu) λbC=>
 OP (ai .add aQ (.int .i64 (1))) λbI=>
 ([aN,aF]:List Value)=[aN,aF]/\L1 [bC,bI] z1)
 (Uq P K x5 h)):=az (by kernel_rfl)
theorem alN:Uq P K x5 h=
 (aw P 30 [x5] h λaV z1=>
 aw P 30 [(.int .i64 (1024))] z1 λaO z2=>
 aw P 31 [aV,aO] z2 λaP z3=>
 aw P 25 [aP] z3 λaS z4=>
 OP (cd 0 aS) λeZ=>
 OP (cd 1 aS) λdR=>
 K (.tuple #[eZ,dR]) z4):=az (by kernel_rfl)
def MG:Prop:=
 aw P 28 [x0] h λx9 z1=>
 OP (ai .neq x9 (.int .i64 (0))) λaR=>
 aK aR
 (K (.tuple #[(.string ⟨#[]⟩),x9]) z1)
 (OP (aZ x0) λaF=>
 bM [(.int .i64 (0)),(.int .i64 (0))] z1 λL1 xs hx=>
 Up P K x0 aF L1 xs hx)
theorem e10:ah P yZ (aX [.tmp 2,.tmp 3] K) (bG [x0]) h=MG P K x0 h:=by kernel_rfl
theorem f10 {K:VK} {x0:Value} {h:ae} (H:MG prog K x0 h):aw prog 10 [x0] h K:=
 bW k10 (bT rfl) ((e10 prog K x0 h).mpr H)
end
noncomputable section
variable (x0 x1 i5 w6 aR aF bp bI aV aO aP a9 cJ dL eA fA iR : Value) (L1 : LQ) (xs : List Value) (h : ae)
def S3:=bJ prog 13 [[],[0,1,11],[0,1,11,14],[],[],[0,1,20],[0,20,23],[],[],[],[],[0,25,26],[27],[],[],[],[0,5,6,25,26,27,34],[0,5,6,25,26,27,34,37],[0,5,6,25,26,27,39],[0,5,6,25,26,27,39,42],[0,5,6,25,26,27,44],[0,25,26,27,44,49],[],[],[],[],[]]
@[irreducible] def uX:=bU S3
@[irreducible] def Nt:=uX.r.l.l.l.r.l
@[irreducible] def Ep:=uX.r.l.l.r
@[irreducible] def Eo:=uX.r.r
@[irreducible] def acp:=Nt.r.l
@[irreducible] def Nn:=Ep.r.l.r.l
@[irreducible] def aci:=Ep.r.r
@[irreducible] def y7:=Eo.l.r.l.l
@[irreducible] def ack:=Eo.r
@[irreducible] def acj:=Nn.r.l
@[irreducible] def No:=y7.r.r.l.l.r.l.r.l
@[irreducible] def acn:=y7.r.r.l.l.r.r
@[irreducible] def acm:=y7.r.r.r
@[irreducible] def Np:=No.r.l
@[irreducible] def Nq:=Np.r.l
@[irreducible] def Nr:=Nq.r.l
@[irreducible] def Ns:=Nr.r.l
@[irreducible] def aco:=Ns.r.l
theorem k13:S3=some (52,uX,[.tmp 4]):=by kernel_rfl
def yo (_P:Program) (K:VK):aj:=aX [.tmp 4] K
def Zi:aj:=aH (ah P Eo (yo P K)) (yo P K)
def yp:aj:=bk 0 (Zi P K)
def LD:aj:=aH (ah P Ep (yp P K)) (yp P K)
def LB:aj:=aH (ah P aci (yp P K)) (yp P K)
def Zg:aj:=aH (ah P ack (yo P K)) (yo P K)
def Zh:aj:=bk 1 (Zg P K)
def CQ:aj:=aH (λf' aJ=>(([0,25,26]:List Nat).map f':List Value)=[x0,aV,aO]/\L1 (([27]:List Nat).map f') aJ) (Zh P K)
def Zj:aj:=aH (ah P acm (CQ P K x0 aV aO L1)) (CQ P K x0 aV aO L1)
def LC:aj:=bk 2 (Zj P K x0 aV aO L1)
def sH:aj:=aH (ah P acn (LC P K x0 aV aO L1)) (LC P K x0 aV aO L1)
def UB:Prop:=ay (ah P Nt (LD P K)) [0,1,11] [x0,x1,aR] h
def HQ:Prop:=ay (ah P acp (LD P K)) [0,1,11,14] [x0,x1,aR,aF] h
def Uw:Prop:=ay (ah P Nn (LB P K)) [0,1,20] [x0,x1,bp] h
def HL:Prop:=ay (ah P acj (LB P K)) [0,20,23] [x0,bp,bI] h
def Ux:Prop:=ay (ah P y7 (CQ P K x0 aV aO L1)) ([0,25,26]++[27]) ([x0,aV,aO]++xs) h
def Uy:Prop:=ay (ah P No (sH P K x0 aV aO L1)) [0,5,6,25,26,27,34] [x0,i5,w6,aV,aO,aP,a9] h
def HM:Prop:=ay (ah P Np (sH P K x0 aV aO L1)) [0,5,6,25,26,27,34,37] [x0,i5,w6,aV,aO,aP,a9,cJ] h
def Uz:Prop:=ay (ah P Nq (sH P K x0 aV aO L1)) [0,5,6,25,26,27,39] [x0,i5,w6,aV,aO,aP,dL] h
def HN:Prop:=ay (ah P Nr (sH P K x0 aV aO L1)) [0,5,6,25,26,27,39,42] [x0,i5,w6,aV,aO,aP,dL,eA] h
def UA:Prop:=ay (ah P Ns (sH P K x0 aV aO L1)) [0,5,6,25,26,27,44] [x0,i5,w6,aV,aO,aP,fA] h
def HP:Prop:=ay (ah P aco (sH P K x0 aV aO L1)) [0,25,26,27,44,49] [x0,aV,aO,aP,fA,iR] h
theorem Wv:HQ P K x0 x1 aR aF h=
 (OP (cA aR (.bool true) aF) λaQ=>
 aK aQ
 (K (.int .i64 (3)) h)
 (OP (aZ x0) λbF=>
 OP (ai .eql bF (.int .i64 (0))) λbo=>
 Uw P K x0 x1 bo h)):=az (by kernel_rfl)
theorem al0:UB P K x0 x1 aR h=
 (b7 aR false
 (OP (dN x1) λaN=>
 OP (ai .gtr aN (.int .i64 (200))) λaF=>
 HQ P K x0 x1 aR aF h)
 (HQ P K x0 x1 aR undef h)):=az (by kernel_rfl)
theorem Ws:HL P K x0 bp bI h=
 (OP (cA bp (.bool true) bI) λbj=>
 aK bj
 (K (.int .i64 (2)) h)
 (OP (aZ x0) λaO=>
 bM [(.int .i64 (0))] h λL1 xs hx=>
 Ux P K x0 x0 aO L1 xs hx)):=az (by kernel_rfl)
theorem alX:Uw P K x0 x1 bp h=
 (b7 bp false
 (aw P 33 [x1] h λbC z1=>
 OP (fG .not bC) λbI=>
 HL P K x0 bp bI z1)
 (HL P K x0 bp undef h)):=az (by kernel_rfl)
theorem BT:HP P K x0 aV aO aP fA iR L1 h=
 (OP (cA fA (.bool true) iR) λgu=>
 aK gu
 (K (.int .i64 (2)) h)
 (OP (ai .add aP (.int .i64 (1))) λlD=>
 ([x0,aV,aO]:List Value)=[x0,aV,aO]/\L1 [lD] h)):=az (by kernel_rfl)
theorem Ji:UA P K x0 i5 w6 aV aO aP fA L1 h=
 (b7 fA false
 (OP (gH 9 1 x0 none (some i5)) λcn=>
 aw P 34 [cn,w6] h λiR z1=>
 HP P K x0 aV aO aP fA iR L1 z1)
 (HP P K x0 aV aO aP fA undef L1 h)):=az (by kernel_rfl)
theorem Jh:HN P K x0 i5 w6 aV aO aP dL eA L1 h=
 (OP (cA dL (.bool true) eA) λeE=>
 UA P K x0 i5 w6 aV aO aP eE L1 h):=az (by kernel_rfl)
theorem Wu:Uz P K x0 i5 w6 aV aO aP dL L1 h=
 (b7 dL false
 (aw P 33 [w6] h λkk z1=>
 OP (fG .not kk) λeA=>
 HN P K x0 i5 w6 aV aO aP dL eA L1 z1)
 (HN P K x0 i5 w6 aV aO aP dL undef L1 h)):=az (by kernel_rfl)
theorem Wt:HM P K x0 i5 w6 aV aO aP a9 cJ L1 h=
 (OP (cA a9 (.bool true) cJ) λeQ=>
 Uz P K x0 i5 w6 aV aO aP eQ L1 h):=az (by kernel_rfl)
theorem alZ:Uy P K x0 i5 w6 aV aO aP a9 L1 h=
 (b7 a9 false
 (OP (dN w6) λcm=>
 OP (ai .gtr cm (.int .i64 (10))) λcJ=>
 HM P K x0 i5 w6 aV aO aP a9 cJ L1 h)
 (HM P K x0 i5 w6 aV aO aP a9 undef L1 h)):=az (by kernel_rfl)
theorem alY (x0 aV aO:Value) (L1:LQ) (aP:Value) (h:ae):Ux P K x0 aV aO L1 [aP] h=
 (OP (ai .lss aP aO) λaS=>
 aK aS
 (OP (aI 1 aV aP) λdR=>
 OP (af false 1 h dR) λdp=>
 OP (ai .eql dp (.string ⟨#[]⟩)) λca=>
 Uy P K x0 aP dp aV aO aP ca L1 h)
 (K (.int .i64 (0)) h)):=az (by kernel_rfl)
def Dr:Prop:=
 OP (aZ x0) λx9=>
 OP (ai .gtr x9 (.int .i64 (12))) λbw=>
 UB P K x0 x1 bw h
theorem e13:ah P uX (aX [.tmp 4] K) (bG [x0,x1]) h=Dr P K x0 x1 h:=by kernel_rfl
theorem f13 {K:VK} {x0 x1:Value} {h:ae} (H:Dr prog K x0 x1 h):aw prog 13 [x0,x1] h K:=
 bW k13 (bT rfl) ((e13 prog K x0 x1 h).mpr H)
end
noncomputable section
variable (s0 x1 : Value) (h : ae)
def S4:=bJ prog 14 [[],[]]
@[irreducible] def Nu:=bU S4
theorem gW:S4=some (8,Nu,[.tmp 4]):=by kernel_rfl
def MH:Prop:=
 aw P 35 [s0,x1] h λx7 z1=>
 K x7 z1
theorem e14:ah P Nu (aX [.tmp 4] K) (bG [s0,x1]) h=MH P K s0 x1 h:=by kernel_rfl
theorem f14 {K:VK} {s0 x1:Value} {h:ae} (H:MH prog K s0 x1 h):aw prog 14 [s0,x1] h K:=
 bW gW (bT rfl) ((e14 prog K s0 x1 h).mpr H)
end
noncomputable section
variable (x0 x1 x2 x6 aQ : Value) (h : ae)
def S5:=bJ prog 15 [[],[],[0,1,2,6,15],[0,1,2,15,19],[],[],[],[],[]]
@[irreducible] def uY:=bU S5
@[irreducible] def acs:=uY.r.l.r.l.r.l
@[irreducible] def acr:=uY.r.l.r.r
@[irreducible] def acq:=uY.r.r
theorem k15:S5=some (24,uY,[.tmp 5]):=by kernel_rfl
def LF (_P:Program) (K:VK):aj:=aX [.tmp 5] K
def LG:aj:=aH (ah P acq (LF P K)) (LF P K)
def Zk:aj:=aH (ah P acr (LG P K)) (LG P K)
def als:Prop:=ay (ah P acs (Zk P K)) [0,1,2,6,15] [x0,x1,x2,x6,aQ] h
def MI:Prop:=
 OP (af false 1 h x2) λx9=>
 OP (jq .str true (.string ⟨#[]⟩) h x9 x0) λaR=>
 OP (cd 0 aR) λaW=>
 OP (cd 1 aR) λaN=>
 als P K x0 x1 x2 aW aN h
theorem e15:ah P uY (aX [.tmp 5] K) (bG [x0,x1,x2]) h=MI P K x0 x1 x2 h:=by kernel_rfl
theorem f15 {K:VK} {x0 x1 x2:Value} {h:ae} (H:MI prog K x0 x1 x2 h):aw prog 15 [x0,x1,x2] h K:=
 bW k15 (bT rfl) ((e15 prog K x0 x1 x2 h).mpr H)
end
noncomputable section
variable (a0 b1 : Value) (h : ae)
def S6:=bJ prog 16 [[],[],[],[],[],[]]
@[irreducible] def Nv:=bU S6
theorem k16:S6=some (18,Nv,[.tmp 4]):=by kernel_rfl
def MJ (_P:Program) (K:VK) (a0 b1:Value) (h:ae):Prop:=
 OP (dN a0) λx7=>
 OP (dN b1) λx9=>
 OP (ai .sub x7 x9) λbw=>
 OP (ai .neq bw (.int .i64 (0))) λaW=>
 aK aW
 (OP (ai .lss bw (.int .i64 (0))) λaF=>
 K aF h)
 (OP (ai .lss a0 b1) λbz=>
 K bz h)
theorem e16:ah P Nv (aX [.tmp 4] K) (bG [a0,b1]) h=MJ P K a0 b1 h:=by kernel_rfl
theorem f16 {K:VK} {a0 b1:Value} {h:ae} (H:MJ prog K a0 b1 h):aw prog 16 [a0,b1] h K:=
 bW k16 (bT rfl) ((e16 prog K a0 b1 h).mpr H)
end
noncomputable section
variable (m0 x3 x6 : Value) (L1 : LQ) (xs : List Value) (h : ae)
def S7:=bJ prog 17 [[],[],[],[6],[3],[],[],[],[3],[],[]]
@[irreducible] def za:=bU S7
@[irreducible] def acv:=za.r.r.l.r.l.l
@[irreducible] def Nw:=za.r.r.r
@[irreducible] def acu:=Nw.l
theorem k17:S7=some (18,za,[.tmp 2]):=by kernel_rfl
def CR (_P:Program) (K:VK):aj:=aX [.tmp 2] K
def Zl:aj:=aH (lq P Nw (CR P K)) (CR P K)
def Zm:aj:=bk 0 (Zl P K)
def Zn:aj:=aH (λf' aJ=>(([6]:List Nat).map f':List Value)=[x6]/\L1 (([3]:List Nat).map f') aJ) (Zm P K)
def UD:Prop:=ay (lq P acv (Zn P K x6 L1)) ([6]++[3]) ([x6]++xs) h
def UC:Prop:=ay (lq P acu (CR P K)) [3] [x3] h
theorem al2 (x6:Value) (L1:LQ) (x3:Value) (h:ae):UD P K x6 L1 [x3] h=
 (uR (rV h x6) λx7 z1=>
 OP (cd 0 x7) λx8=>
 aK x8
 (OP (wx z1 x6) λx9=>
 OP (cd 0 x9) λbw=>
 OH (bq 9 1 [(.string ⟨#[]⟩)] z1 [(0,1,bw)]) λaN z2=>
 OH (cE 9 1 16 z2 x3 aN) λaF z3=>
 ([x6]:List Value)=[x6]/\L1 [aF] z3)
 (UC P K x3 z1)):=az (by kernel_rfl)
theorem al1:UC P K x3 h=
 (aw P 36 [x3] h λaM z1=>
 K x3 z1):=az (by kernel_rfl)
def Ds:Prop:=
 OH (tO h m0) λx6 z1=>
 bM [(.slice none 0 0)] z1 λL1 xs hx=>
 UD P K x6 L1 xs hx
theorem e17:lq P za (aX [.tmp 2] K) (bG [m0]) h=Ds P K m0 h:=by kernel_rfl
theorem f17 {K:VK} {m0:Value} {h:ae} (H:Ds prog K m0 h):uK prog 17 [m0] h K:=
 aeE k17 (bT rfl) ((e17 prog K m0 h).mpr H)
end
noncomputable section
variable (l0 : Value) (h : ae)
def S8:=bJ prog 18 [[],[]]
@[irreducible] def Nx:=bU S8
theorem mR:S8=some (5,Nx,[.tmp 2]):=by kernel_rfl
def MK:Prop:=
 aw P 37 [l0,(.string ⟨#[]⟩)] h λx4 z1=>
 K x4 z1
theorem e18:ah P Nx (aX [.tmp 2] K) (bG [l0]) h=MK P K l0 h:=by kernel_rfl
theorem f18 {K:VK} {l0:Value} {h:ae} (H:MK prog K l0 h):aw prog 18 [l0] h K:=
 bW mR (bT rfl) ((e18 prog K l0 h).mpr H)
end
noncomputable section
variable (s0 x1 : Value) (h : ae)
def Tc:=bJ prog 22 [[],[]]
@[irreducible] def Nz:=bU Tc
theorem k22:Tc=some (8,Nz,[.tmp 4]):=by kernel_rfl
def MM:Prop:=
 aw P 40 [s0,x1] h λx7 z1=>
 K x7 z1
theorem e22:ah P Nz (aX [.tmp 4] K) (bG [s0,x1]) h=MM P K s0 x1 h:=by kernel_rfl
theorem f22 {K:VK} {s0 x1:Value} {h:ae} (H:MM prog K s0 x1 h):aw prog 22 [s0,x1] h K:=
 bW k22 (bT rfl) ((e22 prog K s0 x1 h).mpr H)
end
noncomputable section
variable (l0 aR aF aM bo : Value) (h : ae)
def Ti:=bJ prog 28 [[],[],[],[0,11],[0,11,14],[0,16],[16,19],[],[],[],[]]
@[irreducible] def u7:=bU Ti
@[irreducible] def NW:=u7.r.l.l.r.r.l.r.l
@[irreducible] def acV:=u7.r.l.l.r.r.r
@[irreducible] def acU:=u7.r.r
@[irreducible] def NU:=NW.r.l
@[irreducible] def NV:=NU.r.l
@[irreducible] def acT:=NV.r.l
theorem k28:Ti=some (21,u7,[.tmp 2]):=by kernel_rfl
def LP (_P:Program) (K:VK):aj:=aX [.tmp 2] K
def ZV:aj:=aH (ah P acU (LP P K)) (LP P K)
def LR:aj:=bk 0 (ZV P K)
def yy:aj:=aH (ah P acV (LR P K)) (LR P K)
def UZ:Prop:=ay (ah P NW (yy P K)) [0,11] [l0,aR] h
def H5:Prop:=ay (ah P NU (yy P K)) [0,11,14] [l0,aR,aF] h
def UY:Prop:=ay (ah P NV (yy P K)) [0,16] [l0,aM] h
def H6:Prop:=ay (ah P acT (yy P K)) [16,19] [aM,bo] h
theorem Jk:H6 P K aM bo h=
 (OP (cA aM (.bool true) bo) λbp=>
 aK bp
 (K (.int .i64 (1)) h)
 (K (.int .i64 (0)) h)):=az (by kernel_rfl)
theorem Jj:UY P K l0 aM h=
 (b7 aM false
 (aw P 47 [l0] h λbF z1=>
 OP (ai .gtr bF (.int .i64 (10))) λbo=>
 H6 P K aM bo z1)
 (H6 P K aM undef h)):=az (by kernel_rfl)
theorem Wx:H5 P K l0 aR aF h=
 (OP (cA aR (.bool true) aF) λaQ=>
 UY P K l0 aQ h):=az (by kernel_rfl)
theorem amz:UZ P K l0 aR h=
 (b7 aR false
 (aw P 46 [l0] h λaN z1=>
 OP (ai .lss aN (.int .i64 (1))) λaF=>
 H5 P K l0 aR aF z1)
 (H5 P K l0 aR undef h)):=az (by kernel_rfl)
def DA:Prop:=
 OP (aZ l0) λx5=>
 OP (ai .gtr x5 (.int .i64 (12))) λx6=>
 aK x6
 (K (.int .i64 (3)) h)
 (OP (aZ l0) λx9=>
 OP (ai .eql x9 (.int .i64 (0))) λbw=>
 UZ P K l0 bw h)
theorem e28:ah P u7 (aX [.tmp 2] K) (bG [l0]) h=DA P K l0 h:=by kernel_rfl
theorem f28 {K:VK} {l0:Value} {h:ae} (H:DA prog K l0 h):aw prog 28 [l0] h K:=
 bW k28 (bT rfl) ((e28 prog K l0 h).mpr H)
end
noncomputable section
variable (x0 : Value) (h : ae)
def Tj:=bJ prog 29 [[],[]]
@[irreducible] def NY:=bU Tj
theorem k29:Tj=some (5,NY,[.tmp 2]):=by kernel_rfl
def DB (_P:Program) (K:VK) (x0:Value) (h:ae):Prop:=
 OP (ai .shr (.int .i64 (1024)) x0) λx4=>
 K x4 h
theorem e29:ah P NY (aX [.tmp 2] K) (bG [x0]) h=DB P K x0 h:=by kernel_rfl
theorem f29 {K:VK} {x0:Value} {h:ae} (H:DB prog K x0 h):aw prog 29 [x0] h K:=
 bW k29 (bT rfl) ((e29 prog K x0 h).mpr H)
end
noncomputable section
variable (s0 : Value) (h : ae)
def To:=bJ prog 33 [[],[]]
@[irreducible] def N2:=bU To
theorem k33:To=some (6,N2,[.tmp 2]):=by kernel_rfl
def MN:Prop:=
 aw P 53 [s0,(.string ⟨#[48,49]⟩)] h λx4 z1=>
 OP (ai .eql x4 (.string ⟨#[]⟩)) λx5=>
 K x5 z1
theorem e33:ah P N2 (aX [.tmp 2] K) (bG [s0]) h=MN P K s0 h:=by kernel_rfl
theorem f33 {K:VK} {s0:Value} {h:ae} (H:MN prog K s0 h):aw prog 33 [s0] h K:=
 bW k33 (bT rfl) ((e33 prog K s0 h).mpr H)
end
noncomputable section
variable (s0 v1 : Value) (h : ae)
def Tp:=bJ prog 34 [[],[]]
@[irreducible] def N3:=bU Tp
theorem k34:Tp=some (9,N3,[.tmp 4]):=by kernel_rfl
def MO:Prop:=
 aw P 54 [s0,v1] h λx7 z1=>
 OP (ai .geq x7 (.int .i64 (0))) λx8=>
 K x8 z1
theorem e34:ah P N3 (aX [.tmp 4] K) (bG [s0,v1]) h=MO P K s0 v1 h:=by kernel_rfl
theorem f34 {K:VK} {s0 v1:Value} {h:ae} (H:MO prog K s0 v1 h):aw prog 34 [s0,v1] h K:=
 bW k34 (bT rfl) ((e34 prog K s0 v1 h).mpr H)
end
noncomputable section
variable (s0 x1 bw aM : Value) (h : ae)
def Tq:=bJ prog 35 [[],[0,1,10],[10,16],[]]
@[irreducible] def zi:=bU Tq
@[irreducible] def N4:=zi.r.l.r.l
@[irreducible] def acW:=zi.r.r
@[irreducible] def acX:=N4.r.l
theorem k35:Tq=some (18,zi,[.tmp 4]):=by kernel_rfl
def LS (_P:Program) (K:VK):aj:=aX [.tmp 4] K
def LU:aj:=aH (ah P acW (LS P K)) (LS P K)
def U0:Prop:=ay (ah P N4 (LU P K)) [0,1,10] [s0,x1,bw] h
def H7:Prop:=ay (ah P acX (LU P K)) [10,16] [bw,aM] h
theorem Wy:H7 P K bw aM h=
 (OP (cA bw aM (.bool false)) λbz=>
 K bz h):=az (by kernel_rfl)
theorem amA:U0 P K s0 x1 bw h=
 (b7 bw true
 (OP (dN x1) λaN=>
 OP (gh s0 none (some aN)) λaF=>
 OP (ai .eql aF x1) λaM=>
 H7 P K bw aM h)
 (H7 P K bw undef h)):=az (by kernel_rfl)
def DF:Prop:=
 OP (dN s0) λx6=>
 OP (dN x1) λx8=>
 OP (ai .geq x6 x8) λx9=>
 U0 P K s0 x1 x9 h
theorem e35:ah P zi (aX [.tmp 4] K) (bG [s0,x1]) h=DF P K s0 x1 h:=by kernel_rfl
theorem f35 {K:VK} {s0 x1:Value} {h:ae} (H:DF prog K s0 x1 h):aw prog 35 [s0,x1] h K:=
 bW k35 (bT rfl) ((e35 prog K s0 x1 h).mpr H)
end
noncomputable section
variable (x0 : Value) (h : ae)
def Ts:=bJ prog 36 [[]]
@[irreducible] def N5:=bU Ts
theorem k36:Ts=some (11,N5,[]):=by kernel_rfl
def MP:Prop:=
 OP (aZ x0) λx4=>
 OP (fg .u64 x4) λx8=>
 aw P 56 [x8] h λx9 z1=>
 aw P 55 [x0,(.int .i64 (0)),x4,x9] z1 λbw z2=>
 K (.tuple #[]) z2
theorem e36:ah P N5 (aX [] K) (bG [x0]) h=MP P K x0 h:=by kernel_rfl
theorem f36 {K:VK} {x0:Value} {h:ae} (H:MP prog K x0 h):aw prog 36 [x0] h K:=
 bW k36 (bT rfl) ((e36 prog K x0 h).mpr H)
end
noncomputable section
variable (s0 x1 bw bo : Value) (h : ae)
def Tw:=bJ prog 40 [[],[0,1,10],[10,19],[]]
@[irreducible] def zu:=bU Tw
@[irreducible] def OW:=zu.r.l.r.l
@[irreducible] def adr:=zu.r.r
@[irreducible] def adt:=OW.r.l
theorem k40:Tw=some (21,zu,[.tmp 4]):=by kernel_rfl
def Ma (_P:Program) (K:VK):aj:=aX [.tmp 4] K
def Mb:aj:=aH (ah P adr (Ma P K)) (Ma P K)
def Vo:Prop:=ay (ah P OW (Mb P K)) [0,1,10] [s0,x1,bw] h
def II:Prop:=ay (ah P adt (Mb P K)) [10,19] [bw,bo] h
theorem WW:II P K bw bo h=
 (OP (cA bw bo (.bool false)) λbp=>
 K bp h):=az (by kernel_rfl)
theorem am2:Vo P K s0 x1 bw h=
 (b7 bw true
 (OP (dN s0) λaN=>
 OP (dN x1) λaQ=>
 OP (ai .sub aN aQ) λaM=>
 OP (gh s0 (some aM) none) λbz=>
 OP (ai .eql bz x1) λbo=>
 II P K bw bo h)
 (II P K bw undef h)):=az (by kernel_rfl)
def DH:Prop:=
 OP (dN s0) λx6=>
 OP (dN x1) λx8=>
 OP (ai .geq x6 x8) λx9=>
 Vo P K s0 x1 x9 h
theorem e40:ah P zu (aX [.tmp 4] K) (bG [s0,x1]) h=DH P K s0 x1 h:=by kernel_rfl
theorem f40 {K:VK} {s0 x1:Value} {h:ae} (H:DH prog K s0 x1 h):aw prog 40 [s0,x1] h K:=
 bW k40 (bT rfl) ((e40 prog K s0 x1 h).mpr H)
end
noncomputable section
variable (x0 m3 i4 : Value) (L1 : LQ) (xs : List Value) (h : ae)
def TE:=bJ prog 46 [[],[],[0],[],[],[0],[3,4],[],[],[],[3],[]]
@[irreducible] def EK:=bU TE
@[irreducible] def EL:=EK.r.r.l
@[irreducible] def adK:=EL.r.l.r.l.l
@[irreducible] def O7:=EL.r.r
@[irreducible] def adJ:=O7.l
theorem k46:TE=some (25,EK,[.tmp 2]):=by kernel_rfl
def yI (_P:Program) (K:VK):aj:=aX [.tmp 2] K
def aaB:aj:=aH (ah P O7 (yI P K)) (yI P K)
def aaC:aj:=bk 0 (aaB P K)
def aaD:aj:=aH (λf' aJ=>(([0]:List Nat).map f':List Value)=[x0]/\L1 (([3,4]:List Nat).map f') aJ) (aaC P K)
def IN:Prop:=ay (ah P EL (yI P K)) [0] [x0] h
def VC:Prop:=ay (ah P adK (aaD P K x0 L1)) ([0]++[3,4]) ([x0]++xs) h
def VB:Prop:=ay (ah P adJ (yI P K)) [3] [m3] h
theorem ank (x0:Value) (L1:LQ) (m3 i4:Value) (h:ae):VC P K x0 L1 [m3,i4] h=
 (OP (aZ x0) λaF=>
 OP (ai .lss i4 aF) λaQ=>
 aK aQ
 (OP (aI 1 x0 i4) λbu=>
 OP (af false 1 h bu) λbC=>
 OP (oS false [m3,bC]) λbI=>
 OP (ai .add i4 (.int .i64 (1))) λbz=>
 ([x0]:List Value)=[x0]/\L1 [bI,bz] h)
 (VB P K m3 h)):=az (by kernel_rfl)
theorem ani:VB P K m3 h=
 (K m3 h):=az (by kernel_rfl)
theorem anj:IN P K x0 h=
 (OP (aI 1 x0 (.int .i64 (0))) λbw=>
 OP (af false 1 h bw) λaR=>
 bM [aR,(.int .i64 (1))] h λL1 xs hx=>
 VC P K x0 L1 xs hx):=az (by kernel_rfl)
def DN:Prop:=
 OP (aZ x0) λx6=>
 OP (ai .lss x6 (.int .i64 (1))) λx7=>
 aK x7
 (OH none λx8 z1=>
 OH none λ_ z2=>
 IN P K x0 z2)
 (IN P K x0 h)
theorem e46:ah P EK (aX [.tmp 2] K) (bG [x0]) h=DN P K x0 h:=by kernel_rfl
theorem f46 {K:VK} {x0:Value} {h:ae} (H:DN prog K x0 h):aw prog 46 [x0] h K:=
 bW k46 (bT rfl) ((e46 prog K x0 h).mpr H)
end
noncomputable section
variable (x0 m3 i4 : Value) (L1 : LQ) (xs : List Value) (h : ae)
def TF:=bJ prog 47 [[],[],[0],[],[],[0],[3,4],[],[],[],[3],[]]
@[irreducible] def EM:=bU TF
@[irreducible] def EN:=EM.r.r.l
@[irreducible] def adM:=EN.r.l.r.l.l
@[irreducible] def O8:=EN.r.r
@[irreducible] def adL:=O8.l
theorem k47:TF=some (25,EM,[.tmp 2]):=by kernel_rfl
def yJ (_P:Program) (K:VK):aj:=aX [.tmp 2] K
def aaE:aj:=aH (ah P O8 (yJ P K)) (yJ P K)
def aaF:aj:=bk 0 (aaE P K)
def aaG:aj:=aH (λf' aJ=>(([0]:List Nat).map f':List Value)=[x0]/\L1 (([3,4]:List Nat).map f') aJ) (aaF P K)
def IP:Prop:=ay (ah P EN (yJ P K)) [0] [x0] h
def VE:Prop:=ay (ah P adM (aaG P K x0 L1)) ([0]++[3,4]) ([x0]++xs) h
def VD:Prop:=ay (ah P adL (yJ P K)) [3] [m3] h
theorem ann (x0:Value) (L1:LQ) (m3 i4:Value) (h:ae):VE P K x0 L1 [m3,i4] h=
 (OP (aZ x0) λaF=>
 OP (ai .lss i4 aF) λaQ=>
 aK aQ
 (OP (aI 1 x0 i4) λbu=>
 OP (af false 1 h bu) λbC=>
 OP (oS true [m3,bC]) λbI=>
 OP (ai .add i4 (.int .i64 (1))) λbz=>
 ([x0]:List Value)=[x0]/\L1 [bI,bz] h)
 (VD P K m3 h)):=az (by kernel_rfl)
theorem anl:VD P K m3 h=
 (K m3 h):=az (by kernel_rfl)
theorem anm:IP P K x0 h=
 (OP (aI 1 x0 (.int .i64 (0))) λbw=>
 OP (af false 1 h bw) λaR=>
 bM [aR,(.int .i64 (1))] h λL1 xs hx=>
 VE P K x0 L1 xs hx):=az (by kernel_rfl)
def DO:Prop:=
 OP (aZ x0) λx6=>
 OP (ai .lss x6 (.int .i64 (1))) λx7=>
 aK x7
 (OH none λx8 z1=>
 OH none λ_ z2=>
 IP P K x0 z2)
 (IP P K x0 h)
theorem e47:ah P EM (aX [.tmp 2] K) (bG [x0]) h=DO P K x0 h:=by kernel_rfl
theorem f47 {K:VK} {x0:Value} {h:ae} (H:DO prog K x0 h):aw prog 47 [x0] h K:=
 bW k47 (bT rfl) ((e47 prog K x0 h).mpr H)
end
noncomputable section
variable (s0 x1 x9 aR bz bp : Value) (h : ae)
def TO:=bJ prog 53 [[],[0,1,9],[0,1,9,11],[],[],[],[0,1,17],[0,1,17,20],[],[],[],[],[],[],[],[]]
@[irreducible] def u9:=bU TO
@[irreducible] def Pg:=u9.r.l.l.r.l
@[irreducible] def adZ:=u9.r.l.r
@[irreducible] def zD:=u9.r.r
@[irreducible] def ad0:=Pg.r.l
@[irreducible] def Pf:=zD.l.l.r.l
@[irreducible] def adX:=zD.l.r
@[irreducible] def ad1:=zD.r
@[irreducible] def adY:=Pf.r.l
theorem k53:TO=some (43,u9,[.tmp 4]):=by kernel_rfl
def yK (_P:Program) (K:VK):aj:=aX [.tmp 4] K
def Mn:aj:=aH (ah P zD (yK P K)) (yK P K)
def Mo:aj:=aH (ah P adZ (Mn P K)) (Mn P K)
def Mp:aj:=aH (ah P ad1 (yK P K)) (yK P K)
def Mm:aj:=aH (ah P adX (Mp P K)) (Mp P K)
def VL:Prop:=ay (ah P Pg (Mo P K)) [0,1,9] [s0,x1,x9] h
def IY:Prop:=ay (ah P ad0 (Mo P K)) [0,1,9,11] [s0,x1,x9,aR] h
def VJ:Prop:=ay (ah P Pf (Mm P K)) [0,1,17] [s0,x1,bz] h
def IX:Prop:=ay (ah P adY (Mm P K)) [0,1,17,20] [s0,x1,bz,bp] h
theorem W2:IY P K s0 x1 x9 aR h=
 (OP (cA x9 (.bool true) aR) λaW=>
 aK aW
 (K s0 h)
 (OP (dN x1) λaQ=>
 OP (ai .eql aQ (.int .i64 (1))) λaM=>
 VJ P K s0 x1 aM h)):=az (by kernel_rfl)
theorem anw:VL P K s0 x1 x9 h=
 (b7 x9 false
 (OP (ai .eql x1 (.string ⟨#[]⟩)) λaR=>
 IY P K s0 x1 x9 aR h)
 (IY P K s0 x1 x9 undef h)):=az (by kernel_rfl)
theorem anv:IX P K s0 x1 bz bp h=
 (OP (cA bz bp (.bool false)) λbu=>
 aK bu
 (OP (ja x1 (.int .i64 (0))) λbj=>
 aw P 70 [s0,bj] h λaV z1=>
 (True)/\
 OP (ja x1 (.int .i64 (0))) λaP=>
 aw P 69 [aV,aP] z1 λaS z2=>
 (True)/\
 K aS z2)
 (aw P 71 [x1] h λdp z1=>
 OP (cd 0 dp) λdf=>
 OP (cd 1 dp) λca=>
 OH (cH 114 [(.bool false),(.bool false),(.bool false),(.bool false),(.bool false),(.bool false),(.bool false),(.bool false),(.bool false),(.bool false),(.bool false),(.bool false),(.bool false),(.bool false),(.bool false),(.bool false),(.bool false),(.bool false),(.bool false),(.bool false),(.bool false),(.bool false),(.bool false),(.bool false),(.bool false),(.bool false),(.bool false),(.bool false),(.bool false),(.bool false),(.bool false),(.bool false),(.bool false),(.bool false),(.bool false),(.bool false),(.bool false),(.bool false),(.bool false),(.bool false),(.bool false),(.bool false),(.bool false),(.bool false),(.bool false),(.bool false),(.bool false),(.bool false),(.bool false),(.bool false),(.bool false),(.bool false),(.bool false),(.bool false),(.bool false),(.bool false),(.bool false),(.bool false),(.bool false),(.bool false),(.bool false),(.bool false),(.bool false),(.bool false),(.bool false),(.bool false),(.bool false),(.bool false),(.bool false),(.bool false),(.bool false),(.bool false),(.bool false),(.bool false),(.bool false),(.bool false),(.bool false),(.bool false),(.bool false),(.bool false),(.bool false),(.bool false),(.bool false),(.bool false),(.bool false),(.bool false),(.bool false),(.bool false),(.bool false),(.bool false),(.bool false),(.bool false),(.bool false),(.bool false),(.bool false),(.bool false),(.bool false),(.bool false),(.bool false),(.bool false),(.bool false),(.bool false),(.bool false),(.bool false),(.bool false),(.bool false),(.bool false),(.bool false),(.bool false),(.bool false),(.bool false),(.bool false),(.bool false),(.bool false),(.bool false),(.bool false),(.bool false),(.bool false),(.bool false),(.bool false),(.bool false),(.bool false),(.bool false),(.bool false),(.bool false),(.bool false),(.bool false),(.bool false),(.bool false),(.bool false),(.bool false),(.bool false),(.bool false),(.bool false),(.bool false),(.bool false),(.bool false),(.bool false),(.bool false),(.bool false),(.bool false),(.bool false),(.bool false),(.bool false),(.bool false),(.bool false),(.bool false),(.bool false),(.bool false),(.bool false),(.bool false),(.bool false),(.bool false),(.bool false),(.bool false),(.bool false),(.bool false),(.bool false),(.bool false),(.bool false),(.bool false),(.bool false),(.bool false),(.bool false),(.bool false),(.bool false),(.bool false),(.bool false),(.bool false),(.bool false),(.bool false),(.bool false),(.bool false),(.bool false),(.bool false),(.bool false),(.bool false),(.bool false),(.bool false),(.bool false),(.bool false),(.bool false),(.bool false),(.bool false),(.bool false),(.bool false),(.bool false),(.bool false),(.bool false),(.bool false),(.bool false),(.bool false),(.bool false),(.bool false),(.bool false),(.bool false),(.bool false),(.bool false),(.bool false),(.bool false),(.bool false),(.bool false),(.bool false),(.bool false),(.bool false),(.bool false),(.bool false),(.bool false),(.bool false),(.bool false),(.bool false),(.bool false),(.bool false),(.bool false),(.bool false),(.bool false),(.bool false),(.bool false),(.bool false),(.bool false),(.bool false),(.bool false),(.bool false),(.bool false),(.bool false),(.bool false),(.bool false),(.bool false),(.bool false),(.bool false),(.bool false),(.bool false),(.bool false),(.bool false),(.bool false),(.bool false),(.bool false),(.bool false),(.bool false),(.bool false),(.bool false),(.bool false),(.bool false),(.bool false),(.bool false),(.bool false),(.bool false),(.bool false),(.bool false),(.bool false),(.bool false),(.bool false),(.bool false),(.bool false),(.bool false),(.bool false)] z1) λx5 z2=>
 OH (bE 256 z2 x5 df) λ_ z3=>
 aK ca
 (aw P 73 [s0,x5] z3 λcm z4=>
 aw P 72 [cm,x5] z4 λcJ z5=>
 K cJ z5)
 (aw P 75 [s0,x1] z3 λct z4=>
 aw P 74 [ct,x1] z4 λeA z5=>
 K eA z5))):=az (by kernel_rfl)
theorem anu:VJ P K s0 x1 bz h=
 (b7 bz true
 (OP (ja x1 (.int .i64 (0))) λbo=>
 OP (ai .lss bo (.int .u8 (128))) λbp=>
 IX P K s0 x1 bz bp h)
 (IX P K s0 x1 bz undef h)):=az (by kernel_rfl)
def DV:Prop:=
 OP (ai .eql s0 (.string ⟨#[]⟩)) λx8=>
 VL P K s0 x1 x8 h
theorem Fc:ah P u9 (aX [.tmp 4] K) (bG [s0,x1]) h=DV P K s0 x1 h:=by kernel_rfl
theorem f53 {K:VK} {s0 x1:Value} {h:ae} (H:DV prog K s0 x1 h):aw prog 53 [s0,x1] h K:=
 bW k53 (bT rfl) ((Fc prog K s0 x1 h).mpr H)
end
noncomputable section
variable (s0 v1 x7 x8 : Value) (L1 : LQ) (xs : List Value) (h : ae)
def TP:=bJ prog 54 [[],[],[0,1,7],[8],[],[],[],[],[],[],[],[]]
@[irreducible] def zE:=bU TP
@[irreducible] def ad3:=zE.r.l.r.l.l
@[irreducible] def ad2:=zE.r.r
theorem k54:TP=some (19,zE,[.tmp 4]):=by kernel_rfl
def Mq (_P:Program) (K:VK):aj:=aX [.tmp 4] K
def aaP:aj:=aH (ah P ad2 (Mq P K)) (Mq P K)
def aaQ:aj:=bk 0 (aaP P K)
def aaR:aj:=aH (λf' aJ=>(([0,1,7]:List Nat).map f':List Value)=[s0,v1,x7]/\L1 (([8]:List Nat).map f') aJ) (aaQ P K)
def VM:Prop:=ay (ah P ad3 (aaR P K s0 v1 x7 L1)) ([0,1,7]++[8]) ([s0,v1,x7]++xs) h
theorem anx (s0 v1 x7:Value) (L1:LQ) (x8:Value) (h:ae):VM P K s0 v1 x7 L1 [x8] h=
 (OP (ai .lss x8 x7) λx9=>
 aK x9
 (OP (aI 1 s0 x8) λaF=>
 OP (af false 1 h aF) λaQ=>
 OP (ai .eql v1 aQ) λaM=>
 aK aM
 (K x8 h)
 (OP (ai .add x8 (.int .i64 (1))) λbF=>
 ([s0,v1,x7]:List Value)=[s0,v1,x7]/\L1 [bF] h))
 (K (.int .i64 (-1)) h)):=az (by kernel_rfl)
def DW:Prop:=
 OP (aZ s0) λx7=>
 bM [(.int .i64 (0))] h λL1 xs hx=>
 VM P K s0 v1 x7 L1 xs hx
theorem e54:ah P zE (aX [.tmp 4] K) (bG [s0,v1]) h=DW P K s0 v1 h:=by kernel_rfl
theorem f54 {K:VK} {s0 v1:Value} {h:ae} (H:DW prog K s0 v1 h):aw prog 54 [s0,v1] h K:=
 bW k54 (bT rfl) ((e54 prog K s0 v1 h).mpr H)
end
noncomputable section
variable (x0 x2 : Value) (L1 : LQ) (xs : List Value) (h : ae)
def Ub:=bJ prog 71 [[],[],[0,2],[4],[],[],[],[],[],[],[],[2],[]]
@[irreducible] def zL:=bU Ub
@[irreducible] def aet:=zL.r.l.r.l.l
@[irreducible] def aes:=zL.r.r
theorem k71:Ub=some (21,zL,[.cell true 256 2,.tmp 3]):=by kernel_rfl
def Mz (_P:Program) (K:VK):aj:=aX [.cell true 256 2,.tmp 3] K
def abr:aj:=aH (ah P aes (Mz P K)) (Mz P K)
def abt:aj:=bk 0 (abr P K)
def abu:aj:=aH (λf' aJ=>(([0,2]:List Nat).map f':List Value)=[x0,x2]/\L1 (([4]:List Nat).map f') aJ) (abt P K)
def alv:Prop:=ay (ah P aet (abu P K x0 x2 L1)) ([0,2]++[4]) ([x0,x2]++xs) h
def MR:Prop:=
 OH (cH 114 [(.bool false),(.bool false),(.bool false),(.bool false),(.bool false),(.bool false),(.bool false),(.bool false),(.bool false),(.bool false),(.bool false),(.bool false),(.bool false),(.bool false),(.bool false),(.bool false),(.bool false),(.bool false),(.bool false),(.bool false),(.bool false),(.bool false),(.bool false),(.bool false),(.bool false),(.bool false),(.bool false),(.bool false),(.bool false),(.bool false),(.bool false),(.bool false),(.bool false),(.bool false),(.bool false),(.bool false),(.bool false),(.bool false),(.bool false),(.bool false),(.bool false),(.bool false),(.bool false),(.bool false),(.bool false),(.bool false),(.bool false),(.bool false),(.bool false),(.bool false),(.bool false),(.bool false),(.bool false),(.bool false),(.bool false),(.bool false),(.bool false),(.bool false),(.bool false),(.bool false),(.bool false),(.bool false),(.bool false),(.bool false),(.bool false),(.bool false),(.bool false),(.bool false),(.bool false),(.bool false),(.bool false),(.bool false),(.bool false),(.bool false),(.bool false),(.bool false),(.bool false),(.bool false),(.bool false),(.bool false),(.bool false),(.bool false),(.bool false),(.bool false),(.bool false),(.bool false),(.bool false),(.bool false),(.bool false),(.bool false),(.bool false),(.bool false),(.bool false),(.bool false),(.bool false),(.bool false),(.bool false),(.bool false),(.bool false),(.bool false),(.bool false),(.bool false),(.bool false),(.bool false),(.bool false),(.bool false),(.bool false),(.bool false),(.bool false),(.bool false),(.bool false),(.bool false),(.bool false),(.bool false),(.bool false),(.bool false),(.bool false),(.bool false),(.bool false),(.bool false),(.bool false),(.bool false),(.bool false),(.bool false),(.bool false),(.bool false),(.bool false),(.bool false),(.bool false),(.bool false),(.bool false),(.bool false),(.bool false),(.bool false),(.bool false),(.bool false),(.bool false),(.bool false),(.bool false),(.bool false),(.bool false),(.bool false),(.bool false),(.bool false),(.bool false),(.bool false),(.bool false),(.bool false),(.bool false),(.bool false),(.bool false),(.bool false),(.bool false),(.bool false),(.bool false),(.bool false),(.bool false),(.bool false),(.bool false),(.bool false),(.bool false),(.bool false),(.bool false),(.bool false),(.bool false),(.bool false),(.bool false),(.bool false),(.bool false),(.bool false),(.bool false),(.bool false),(.bool false),(.bool false),(.bool false),(.bool false),(.bool false),(.bool false),(.bool false),(.bool false),(.bool false),(.bool false),(.bool false),(.bool false),(.bool false),(.bool false),(.bool false),(.bool false),(.bool false),(.bool false),(.bool false),(.bool false),(.bool false),(.bool false),(.bool false),(.bool false),(.bool false),(.bool false),(.bool false),(.bool false),(.bool false),(.bool false),(.bool false),(.bool false),(.bool false),(.bool false),(.bool false),(.bool false),(.bool false),(.bool false),(.bool false),(.bool false),(.bool false),(.bool false),(.bool false),(.bool false),(.bool false),(.bool false),(.bool false),(.bool false),(.bool false),(.bool false),(.bool false),(.bool false),(.bool false),(.bool false),(.bool false),(.bool false),(.bool false),(.bool false),(.bool false),(.bool false),(.bool false),(.bool false),(.bool false),(.bool false),(.bool false),(.bool false),(.bool false),(.bool false),(.bool false),(.bool false),(.bool false),(.bool false),(.bool false),(.bool false),(.bool false),(.bool false),(.bool false),(.bool false),(.bool false),(.bool false),(.bool false),(.bool false),(.bool false),(.bool false)] h) λx2 z1=>
 bM [(.int .i64 (0))] z1 λL1 xs hx=>
 alv P K x0 x2 L1 xs hx
theorem e71:ah P zL (aX [.cell true 256 2,.tmp 3] K) (bG [x0]) h=MR P K x0 h:=by kernel_rfl
theorem f71 {K:VK} {x0:Value} {h:ae} (H:MR prog K x0 h):aw prog 71 [x0] h K:=
 bW k71 (bT rfl) ((e71 prog K x0 h).mpr H)
end
noncomputable section
variable (s0 x1 : Value) (L1 : LQ) (xs : List Value) (h : ae)
def Uc:=bJ prog 72 [[],[1],[0],[],[],[],[],[0],[]]
@[irreducible] def zM:=bU Uc
@[irreducible] def aev:=zM.r.l.l.l
@[irreducible] def PD:=zM.r.r
@[irreducible] def aeu:=PD.l
theorem k72:Uc=some (16,zM,[.tmp 4]):=by kernel_rfl
def Dh (_P:Program) (K:VK):aj:=aX [.tmp 4] K
def abv:aj:=aH (ah P PD (Dh P K)) (Dh P K)
def abw:aj:=bk 0 (abv P K)
def abx:aj:=aH (λf' aJ=>(([1]:List Nat).map f':List Value)=[x1]/\L1 (([0]:List Nat).map f') aJ) (abw P K)
def Wb:Prop:=ay (ah P aev (abx P K x1 L1)) ([1]++[0]) ([x1]++xs) h
def I3:Prop:=ay (ah P aeu (Dh P K)) [0] [s0] h
theorem anZ (x1:Value) (L1:LQ) (s0:Value) (h:ae):Wb P K x1 L1 [s0] h=
 (OP (dN s0) λx6=>
 OP (ai .gtr x6 (.int .i64 (0))) λx7=>
 aK x7
 (OP (ja s0 (.int .i64 (0))) λbw=>
 aw P 92 [x1,bw] h λaR z1=>
 OP (fG .not aR) λaW=>
 aK aW
 (I3 P K s0 z1)
 (OP (gh s0 (some (.int .i64 (1))) none) λaF=>
 ([x1]:List Value)=[x1]/\L1 [aF] z1))
 (I3 P K s0 h)):=az (by kernel_rfl)
theorem W5:I3 P K s0 h=
 (K s0 h):=az (by kernel_rfl)
def Ec:Prop:=
 bM [s0] h λL1 xs hx=>
 Wb P K x1 L1 xs hx
theorem e72:ah P zM (aX [.tmp 4] K) (bG [s0,x1]) h=Ec P K s0 x1 h:=by kernel_rfl
theorem f72 {K:VK} {s0 x1:Value} {h:ae} (H:Ec prog K s0 x1 h):aw prog 72 [s0,x1] h K:=
 bW k72 (bT rfl) ((e72 prog K s0 x1 h).mpr H)
end
noncomputable section
variable (s0 x1 : Value) (L1 : LQ) (xs : List Value) (h : ae)
def Ud:=bJ prog 73 [[],[1],[0],[],[],[],[],[0],[]]
@[irreducible] def zN:=bU Ud
@[irreducible] def aex:=zN.r.l.l.l
@[irreducible] def PE:=zN.r.r
@[irreducible] def aew:=PE.l
theorem k73:Ud=some (22,zN,[.tmp 4]):=by kernel_rfl
def Di (_P:Program) (K:VK):aj:=aX [.tmp 4] K
def aby:aj:=aH (ah P PE (Di P K)) (Di P K)
def abz:aj:=bk 0 (aby P K)
def abA:aj:=aH (λf' aJ=>(([1]:List Nat).map f':List Value)=[x1]/\L1 (([0]:List Nat).map f') aJ) (abz P K)
def Wc:Prop:=ay (ah P aex (abA P K x1 L1)) ([1]++[0]) ([x1]++xs) h
def I4:Prop:=ay (ah P aew (Di P K)) [0] [s0] h
theorem an0 (x1:Value) (L1:LQ) (s0:Value) (h:ae):Wc P K x1 L1 [s0] h=
 (OP (dN s0) λx6=>
 OP (ai .gtr x6 (.int .i64 (0))) λx7=>
 aK x7
 (OP (dN s0) λaR=>
 OP (ai .sub aR (.int .i64 (1))) λaW=>
 OP (ja s0 aW) λaN=>
 aw P 92 [x1,aN] h λaF z1=>
 OP (fG .not aF) λaQ=>
 aK aQ
 (I4 P K s0 z1)
 (OP (dN s0) λbF=>
 OP (ai .sub bF (.int .i64 (1))) λbo=>
 OP (gh s0 none (some bo)) λbp=>
 ([x1]:List Value)=[x1]/\L1 [bp] z1))
 (I4 P K s0 h)):=az (by kernel_rfl)
theorem W6:I4 P K s0 h=
 (K s0 h):=az (by kernel_rfl)
def Ed:Prop:=
 bM [s0] h λL1 xs hx=>
 Wc P K x1 L1 xs hx
theorem e73:ah P zN (aX [.tmp 4] K) (bG [s0,x1]) h=Ed P K s0 x1 h:=by kernel_rfl
theorem f73 {K:VK} {s0 x1:Value} {h:ae} (H:Ed prog K s0 x1 h):aw prog 73 [s0,x1] h K:=
 bW k73 (bT rfl) ((e73 prog K s0 x1 h).mpr H)
end
noncomputable section
variable (x0 c1 : Value) (h : ae)
def Uj:=bJ prog 92 [[],[]]
@[irreducible] def PN:=bU Uj
theorem k92:Uj=some (10,PN,[.tmp 4]):=by kernel_rfl
def Eh (_P:Program) (K:VK) (x0 c1:Value) (h:ae):Prop:=
 OP (tN x0) λx7=>
 OP (tL 256 1 x7 c1) λx8=>
 OP (af false 1 h x8) λx9=>
 K x9 h
theorem e92:ah P PN (aX [.tmp 4] K) (bG [x0,c1]) h=Eh P K x0 c1 h:=by kernel_rfl
theorem f92 {K:VK} {x0 c1:Value} {h:ae} (H:Eh prog K x0 c1 h):aw prog 92 [x0,c1] h K:=
 bW k92 (bT rfl) ((e92 prog K x0 c1 h).mpr H)
end
end
section
variable (P : Program) (K : VK)
noncomputable section
variable (n0 x2 u3 : Value) (h : ae)
def Tb:=bJ prog 21 [[],[],[],[0,2,3],[]]
@[irreducible] def Er:=bU Tb
@[irreducible] def acA:=Er.r.r.r.l
theorem k21:Tb=some (20,Er,[.cell true 2 2]):=by kernel_rfl
def Zu (_P:Program) (K:VK):aj:=aX [.cell true 2 2] K
def By:Prop:=ay (ah P acA (Zu P K)) [0,2,3] [n0,x2,u3] h
theorem al6:By P K n0 x2 u3 h=
 (OP (ai .lss n0 (.int .i64 (0))) λaR=>
 OP (fg .u32 u3) λaN=>
 OP (ai .shr u3 (.int .u64 (32))) λaQ=>
 OP (fg .u32 aQ) λaM=>
 OH (bq 79 2 [(.int .u32 (0))] h [(0,1,aN),(1,1,aM)]) λbz z1=>
 aw P 39 [bz] z1 λbF z2=>
 aw P 38 [aR,bF] z2 λbo z3=>
 OH (bE 2 z3 x2 bo) λ_ z4=>
 OP (af true 2 z4 x2) λr0=>
 K r0 z4):=az (by kernel_rfl)
def Dv:Prop:=
 OH (cH 56 [(.bool false),(.slice none 0 0)] h) λx2 z1=>
 OP (fg .u64 n0) λx5=>
 OP (ai .lss n0 (.int .i64 (0))) λx7=>
 aK x7
 (OP (fG .neg x5) λx9=>
 By P K n0 x2 x9 z1)
 (By P K n0 x2 x5 z1)
theorem e21:ah P Er (aX [.cell true 2 2] K) (bG [n0]) h=Dv P K n0 h:=by kernel_rfl
theorem f21 {K:VK} {n0:Value} {h:ae} (H:Dv prog K n0 h):aw prog 21 [n0] h K:=
 bW k21 (bT rfl) ((e21 prog K n0 h).mpr H)
end
noncomputable section
variable (a0 b1 : Value) (h : ae)
def Td:=bJ prog 23 [[],[],[],[],[],[],[]]
@[irreducible] def uZ:=bU Td
theorem k23:Td=some (42,uZ,[.cell true 2 4]):=by kernel_rfl
def Dw:Prop:=
 OH (cQ 56 h a0) λa2 z1=>
 OH (cQ 56 z1 b1) λb3 z2=>
 OH (cH 56 [(.bool false),(.slice none 0 0)] z2) λx4 z3=>
 OP (bD 0 a2) λx6=>
 OP (af false 1 z3 x6) λx7=>
 OP (bD 0 b3) λx8=>
 OP (af false 1 z3 x8) λx9=>
 OP (lk false x7 x9) λbw=>
 aK bw
 (OP (bD 0 a2) λaR=>
 OP (af false 1 z3 aR) λaW=>
 (True)/\
 OP (bD 1 a2) λaN=>
 OP (af false 1 z3 aN) λaF=>
 (True)/\
 OP (bD 1 b3) λaQ=>
 OP (af false 1 z3 aQ) λaM=>
 (True)/\
 aw P 41 [aF,aM] z3 λbz z4=>
 (af false 1 z4 aR=some aW/\True)/\
 aw P 38 [aW,bz] z4 λbF z5=>
 (True)/\
 OH (bE 2 z5 x4 bF) λ_ z6=>
 (True)/\
 OP (af true 2 z6 x4) λr0=>
 K r0 z6)
 (OP (bD 1 a2) λbp=>
 OP (af false 1 z3 bp) λbu=>
 OP (bD 1 b3) λbC=>
 OP (af false 1 z3 bC) λbI=>
 aw P 42 [bu,bI] z3 λbj z4=>
 OP (ai .geq bj (.int .i64 (0))) λaV=>
 aK aV
 (OP (bD 0 a2) λaO=>
 OP (af false 1 z4 aO) λaP=>
 (True)/\
 OP (bD 1 a2) λaS=>
 OP (af false 1 z4 aS) λeZ=>
 (True)/\
 OP (bD 1 b3) λdR=>
 OP (af false 1 z4 dR) λdp=>
 (True)/\
 aw P 43 [eZ,dp] z4 λdf z5=>
 (af false 1 z5 aO=some aP/\True)/\
 aw P 38 [aP,df] z5 λca z6=>
 (True)/\
 OH (bE 2 z6 x4 ca) λ_ z7=>
 (True)/\
 OP (af true 2 z7 x4) λr0=>
 K r0 z7)
 (OP (bD 0 b3) λa9=>
 OP (af false 1 z4 a9) λbB=>
 (True)/\
 OP (bD 1 b3) λcm=>
 OP (af false 1 z4 cm) λcJ=>
 (True)/\
 OP (bD 1 a2) λeQ=>
 OP (af false 1 z4 eQ) λdL=>
 (True)/\
 aw P 43 [cJ,dL] z4 λct z5=>
 (af false 1 z5 a9=some bB/\True)/\
 aw P 38 [bB,ct] z5 λkk z6=>
 (True)/\
 OH (bE 2 z6 x4 kk) λ_ z7=>
 (True)/\
 OP (af true 2 z7 x4) λr0=>
 K r0 z7))
theorem e23:ah P uZ (aX [.cell true 2 4] K) (bG [a0,b1]) h=Dw P K a0 b1 h:=by kernel_rfl
theorem f23 {K:VK} {a0 b1:Value} {h:ae} (H:Dw prog K a0 b1 h):aw prog 23 [a0,b1] h K:=
 bW k23 (bT rfl) ((e23 prog K a0 b1 h).mpr H)
end
noncomputable section
variable (n0 : Value) (h : ae)
def Te:=bJ prog 24 [[],[]]
@[irreducible] def NA:=bU Te
theorem k24:Te=some (6,NA,[.cell true 4 2]):=by kernel_rfl
def Dx:Prop:=
 OH (cQ 56 h n0) λn1 z1=>
 OH (cH 61 [(.bool false),(.slice none 0 0),(.bool false),(.slice none 0 0)] z1) λx2 z2=>
 OP (af true 2 z2 n1) λx3=>
 (True)/\
 aw P 21 [(.int .i64 (1))] z2 λx4 z3=>
 (af true 2 z3 n1=some x3/\True)/\
 OP (jo [(.bool false),(.slice none 0 0),(.bool false),(.slice none 0 0)] [(0,2,x3),(2,2,x4)]) λx5=>
 OH (bE 4 z3 x2 x5) λ_ z4=>
 (True)/\
 OP (af true 4 z4 x2) λr0=>
 K r0 z4
theorem e24:ah P NA (aX [.cell true 4 2] K) (bG [n0]) h=Dx P K n0 h:=by kernel_rfl
theorem f24 {K:VK} {n0:Value} {h:ae} (H:Dx prog K n0 h):aw prog 24 [n0] h K:=
 bW k24 (bT rfl) ((e24 prog K n0 h).mpr H)
end
noncomputable section
variable (a0 a1 s4 : Value) (h : ae)
def Tf:=bJ prog 25 [[],[],[],[],[],[],[1,4],[],[],[],[],[],[],[],[]]
@[irreducible] def Es:=bU Tf
@[irreducible] def acB:=Es.r.r.r.r.l
theorem k25:Tf=some (32,Es,[.tmp 2,.tmp 3]):=by kernel_rfl
def Zv (_P:Program) (K:VK):aj:=aX [.tmp 2,.tmp 3] K
def wU:Prop:=ay (ah P acB (Zv P K)) [1,4] [a1,s4] h
theorem Ww:wU P K a1 s4 h=
 (OP (af true 4 h a1) λbF=>
 aw P 45 [bF] h λbo z1=>
 aK bo
 (K (.tuple #[s4,(.int .i64 (0))]) z1)
 (OP (bD 2 a1) λbu=>
 OP (bD 1 bu) λbC=>
 OP (af false 1 z1 bC) λbI=>
 aw P 44 [bI] z1 λbj z2=>
 OP (dN bj) λaO=>
 OP (ai .gtr aO (.int .i64 (4000))) λaP=>
 aK aP
 (K (.tuple #[(.string ⟨#[]⟩),(.int .i64 (4))]) z2)
 (OP (ai .add s4 (.string ⟨#[47]⟩)) λeZ=>
 OP (ai .add eZ bj) λdp=>
 K (.tuple #[dp,(.int .i64 (0))]) z2))):=az (by kernel_rfl)
def yT:Prop:=
 OH (cQ 61 h a0) λa1 z1=>
 OP (bD 0 a1) λx6=>
 OP (bD 1 x6) λx7=>
 OP (af false 1 z1 x7) λx8=>
 aw P 44 [x8] z1 λx9 z2=>
 OP (dN x9) λaR=>
 OP (ai .gtr aR (.int .i64 (4000))) λaW=>
 aK aW
 (K (.tuple #[(.string ⟨#[]⟩),(.int .i64 (4))]) z2)
 (OP (bD 0 a1) λaN=>
 OP (bD 0 aN) λaF=>
 OP (af false 1 z2 aF) λaQ=>
 aK aQ
 (OP (ai .add (.string ⟨#[45]⟩) x9) λbz=>
 wU P K a1 bz z2)
 (wU P K a1 x9 z2))
theorem e25:ah P Es (aX [.tmp 2,.tmp 3] K) (bG [a0]) h=yT P K a0 h:=by kernel_rfl
theorem f25 {K:VK} {a0:Value} {h:ae} (H:yT prog K a0 h):aw prog 25 [a0] h K:=
 bW k25 (bT rfl) ((e25 prog K a0 h).mpr H)
end
noncomputable section
variable (n0 : Value) (h : ae)
def Tl:=bJ prog 30 [[],[]]
@[irreducible] def NZ:=bU Tl
theorem k30:Tl=some (7,NZ,[.cell true 4 2]):=by kernel_rfl
def DC:Prop:=
 OH (cH 61 [(.bool false),(.slice none 0 0),(.bool false),(.slice none 0 0)] h) λx2 z1=>
 aw P 21 [n0] z1 λx4 z2=>
 aw P 21 [(.int .i64 (1))] z2 λx5 z3=>
 OP (jo [(.bool false),(.slice none 0 0),(.bool false),(.slice none 0 0)] [(0,2,x4),(2,2,x5)]) λx6=>
 OH (bE 4 z3 x2 x6) λ_ z4=>
 OP (af true 4 z4 x2) λr0=>
 K r0 z4
theorem e30:ah P NZ (aX [.cell true 4 2] K) (bG [n0]) h=DC P K n0 h:=by kernel_rfl
theorem f30 {K:VK} {n0:Value} {h:ae} (H:DC prog K n0 h):aw prog 30 [n0] h K:=
 bW k30 (bT rfl) ((e30 prog K n0 h).mpr H)
end
noncomputable section
variable (a0 b1 : Value) (h : ae)
def Tm:=bJ prog 31 [[],[]]
@[irreducible] def N0:=bU Tm
theorem k31:Tm=some (16,N0,[.cell true 4 4]):=by kernel_rfl
def DD:Prop:=
 OH (cQ 61 h a0) λa2 z1=>
 OH (cQ 61 z1 b1) λb3 z2=>
 OH (cH 61 [(.bool false),(.slice none 0 0),(.bool false),(.slice none 0 0)] z2) λx4 z3=>
 OP (bD 0 a2) λx5=>
 OP (af true 2 z3 x5) λx6=>
 (True)/\
 OP (bD 2 b3) λx7=>
 OP (af true 2 z3 x7) λx8=>
 (True)/\
 aw P 52 [x6,x8] z3 λx9 z4=>
 (True)/\
 OP (bD 2 a2) λbw=>
 OP (af true 2 z4 bw) λaR=>
 (af true 2 z3 bw=some aR/\True)/\
 OP (bD 0 b3) λaW=>
 OP (af true 2 z4 aW) λaN=>
 (af true 2 z3 aW=some aN/\True)/\
 aw P 52 [aR,aN] z4 λaF z5=>
 (True)/\
 aw P 51 [x9,aF] z5 λaQ z6=>
 (True)/\
 OH (bE 4 z6 x4 aQ) λ_ z7=>
 (True)/\
 OP (af true 4 z7 x4) λr0=>
 K r0 z7
theorem e31:ah P N0 (aX [.cell true 4 4] K) (bG [a0,b1]) h=DD P K a0 b1 h:=by kernel_rfl
theorem f31 {K:VK} {a0 b1:Value} {h:ae} (H:DD prog K a0 b1 h):aw prog 31 [a0,b1] h K:=
 bW k31 (bT rfl) ((e31 prog K a0 b1 h).mpr H)
end
noncomputable section
variable (x0 x1 x4 x6 x9 : Value) (h : ae)
def Tt:=bJ prog 38 [[],[1,4,6],[1,4,6,9],[]]
@[irreducible] def zj:=bU Tt
@[irreducible] def N6:=zj.r.l.r.l
@[irreducible] def acY:=zj.r.r
@[irreducible] def acZ:=N6.r.l
theorem k38:Tt=some (13,zj,[.cell true 2 4]):=by kernel_rfl
def LV (_P:Program) (K:VK):aj:=aX [.cell true 2 4] K
def LW:aj:=aH (ah P acY (LV P K)) (LV P K)
def U1:Prop:=ay (ah P N6 (LW P K)) [1,4,6] [x1,x4,x6] h
def wV:Prop:=ay (ah P acZ (LW P K)) [1,4,6,9] [x1,x4,x6,x9] h
theorem Wz:wV P K x1 x4 x6 x9 h=
 (OP (cA x6 x9 (.bool false)) λbw=>
 OP (jo [(.bool false),(.slice none 0 0)] [(0,1,bw),(1,1,x1)]) λaW=>
 OH (bE 2 h x4 aW) λ_ z1=>
 OP (af true 2 z1 x4) λr0=>
 K r0 z1):=az (by kernel_rfl)
theorem amB:U1 P K x1 x4 x6 h=
 (b7 x6 true
 (OP (aZ x1) λx8=>
 OP (ai .gtr x8 (.int .i64 (0))) λx9=>
 wV P K x1 x4 x6 x9 h)
 (wV P K x1 x4 x6 undef h)):=az (by kernel_rfl)
def DG:Prop:=
 OH (cH 56 [(.bool false),(.slice none 0 0)] h) λx4 z1=>
 U1 P K x1 x4 x0 z1
theorem e38:ah P zj (aX [.cell true 2 4] K) (bG [x0,x1]) h=DG P K x0 x1 h:=by kernel_rfl
theorem f38 {K:VK} {x0 x1:Value} {h:ae} (H:DG prog K x0 x1 h):aw prog 38 [x0,x1] h K:=
 bW k38 (bT rfl) ((e38 prog K x0 x1 h).mpr H)
end
noncomputable section
variable (x0 x6 aN : Value) (L1 : LQ) (xs : List Value) (h : ae)
def Tu:=bJ prog 39 [[],[],[0],[0,6],[0,6,13],[],[],[0],[]]
@[irreducible] def zk:=bU Tu
@[irreducible] def zl:=zk.r.l.l.l
@[irreducible] def N7:=zk.r.r
@[irreducible] def N8:=zl.l.l.r.l
@[irreducible] def ac3:=zl.l.r
@[irreducible] def ac2:=zl.r
@[irreducible] def ac1:=N7.l
@[irreducible] def ac0:=N8.r.l
theorem k39:Tu=some (21,zk,[.tmp 2]):=by kernel_rfl
def CV (_P:Program) (K:VK):aj:=aX [.tmp 2] K
def ZW:aj:=aH (ah P N7 (CV P K)) (CV P K)
def ZX:aj:=bk 0 (ZW P K)
def CW:aj:=aH (λf' aJ=>(([]:List Nat).map f':List Value)=[]/\L1 (([0]:List Nat).map f') aJ) (ZX P K)
def LX:aj:=aH (ah P ac2 (CW P K L1)) (CW P K L1)
def LY:aj:=aH (ah P ac3 (LX P K L1)) (LX P K L1)
def U2:Prop:=ay (ah P zl (CW P K L1)) ([]++[0]) ([]++xs) h
def U3:Prop:=ay (ah P N8 (LY P K L1)) [0,6] [x0,x6] h
def H8:Prop:=ay (ah P ac0 (LY P K L1)) [0,6,13] [x0,x6,aN] h
def H9:Prop:=ay (ah P ac1 (CV P K)) [0] [x0] h
theorem WA:H8 P K x0 x6 aN L1 h=
 (OP (cA x6 aN (.bool false)) λaF=>
 aK aF
 (OP (aZ x0) λbz=>
 OP (ai .sub bz (.int .i64 (1))) λbF=>
 OP (gH 79 1 x0 none (some bF)) λbo=>
 ([]:List Value)=[]/\L1 [bo] h)
 (H9 P K x0 h)):=az (by kernel_rfl)
theorem WB:U3 P K x0 x6 L1 h=
 (b7 x6 true
 (OP (aZ x0) λx9=>
 OP (ai .sub x9 (.int .i64 (1))) λbw=>
 OP (aI 1 x0 bw) λaR=>
 OP (af false 1 h aR) λaW=>
 OP (ai .eql aW (.int .u32 (0))) λaN=>
 H8 P K x0 x6 aN L1 h)
 (H8 P K x0 x6 undef L1 h)):=az (by kernel_rfl)
theorem amD (L1:LQ) (x0:Value) (h:ae):U2 P K L1 [x0] h=
 (OP (aZ x0) λx4=>
 OP (ai .gtr x4 (.int .i64 (0))) λx5=>
 U3 P K x0 x5 L1 h):=az (by kernel_rfl)
theorem amC:H9 P K x0 h=
 (K x0 h):=az (by kernel_rfl)
def MQ:Prop:=
 bM [x0] h λL1 xs hx=>
 U2 P K L1 xs hx
theorem e39:ah P zk (aX [.tmp 2] K) (bG [x0]) h=MQ P K x0 h:=by kernel_rfl
theorem f39 {K:VK} {x0:Value} {h:ae} (H:MQ prog K x0 h):aw prog 39 [x0] h K:=
 bW k39 (bT rfl) ((e39 prog K x0 h).mpr H)
end
noncomputable section
variable (a0 b1 x5 x6 i7 y8 bu bC : Value) (L1 : LQ) (xs : List Value) (h : ae)
def Ty:=bJ prog 41 [[],[],[0,1],[],[],[],[0,1,5,21],[6,22],[],[],[],[],[],[0,1,5,6,7,8,21,22],[0,1,5,6,21,22],[0,5,6],[],[]]
@[irreducible] def EF:=bU Ty
@[irreducible] def EH:=EF.r.r.l
@[irreducible] def EG:=EH.r.r.l.r.l.l
@[irreducible] def OY:=EH.r.r.r
@[irreducible] def adu:=EG.r.r.l.l.r.r.r.l
@[irreducible] def OX:=EG.r.r.r
@[irreducible] def adw:=OY.l
@[irreducible] def adv:=OX.l
theorem k41:Ty=some (54,EF,[.tmp 4]):=by kernel_rfl
def yE (_P:Program) (K:VK):aj:=aX [.tmp 4] K
def aao:aj:=aH (ah P OY (yE P K)) (yE P K)
def aap:aj:=bk 0 (aao P K)
def yF:aj:=aH (λf' aJ=>(([0,1,5,21]:List Nat).map f':List Value)=[a0,b1,x5,bu]/\L1 (([6,22]:List Nat).map f') aJ) (aap P K)
def aam:aj:=aH (ah P OX (yF P K a0 b1 x5 bu L1)) (yF P K a0 b1 x5 bu L1)
def aan:aj:=bk 1 (aam P K a0 b1 x5 bu L1)
def BI:Prop:=ay (ah P EH (yE P K)) [0,1] [a0,b1] h
def Vp:Prop:=ay (ah P EG (yF P K a0 b1 x5 bu L1)) ([0,1,5,21]++[6,22]) ([a0,b1,x5,bu]++xs) h
def BH:Prop:=ay (ah P adu (aan P K a0 b1 x5 bu L1)) [0,1,5,6,7,8,21,22] [a0,b1,x5,x6,i7,y8,bu,bC] h
def Vq:Prop:=ay (ah P adv (yF P K a0 b1 x5 bu L1)) [0,1,5,6,21,22] [a0,b1,x5,x6,bu,bC] h
def Vr:Prop:=ay (ah P adw (yE P K)) [0,5,6] [a0,x5,x6] h
theorem am4:BH P K a0 b1 x5 x6 i7 y8 bu bC L1 h=
 (OP (aI 1 a0 i7) λeQ=>
 OP (af false 1 h eQ) λdL=>
 aw P 60 [dL,y8,x6] h λeA z1=>
 OP (cd 0 eA) λeE=>
 OP (cd 1 eA) λfA=>
 OP (aI 1 x5 i7) λhZ=>
 OH (bE 1 z1 hZ eE) λ_ z2=>
 Vq P K a0 b1 x5 fA bu bC L1 z2):=az (by kernel_rfl)
theorem am5:Vq P K a0 b1 x5 x6 bu bC L1 h=
 (OP (ai .add bC (.int .i64 (1))) λgr=>
 ([a0,b1,x5,bu]:List Value)=[a0,b1,x5,bu]/\L1 [x6,gr] h):=az (by kernel_rfl)
theorem am3 (a0 b1 x5 bu:Value) (L1:LQ) (x6 bC:Value) (h:ae):Vp P K a0 b1 x5 bu L1 [x6,bC] h=
 (OP (ai .lss bC bu) λbI=>
 aK bI
 (OP (aZ b1) λaP=>
 OP (ai .lss bC aP) λaS=>
 aK aS
 (OP (aI 1 b1 bC) λdp=>
 OP (af false 1 h dp) λdf=>
 BH P K a0 b1 x5 x6 bC df bu bC L1 h)
 (BH P K a0 b1 x5 x6 bC (.int .u32 (0)) bu bC L1 h))
 (Vr P K a0 x5 x6 h)):=az (by kernel_rfl)
theorem am6:Vr P K a0 x5 x6 h=
 (OP (aZ a0) λiR=>
 OP (aI 1 x5 iR) λlD=>
 OH (bE 1 h lD x6) λ_ z1=>
 aw P 39 [x5] z1 λgv z2=>
 K gv z2):=az (by kernel_rfl)
theorem am7:BI P K a0 b1 h=
 (OP (aZ a0) λbz=>
 OP (ai .add bz (.int .i64 (1))) λbF=>
 OH (jM 79 4 [(.int .u32 (0))] h bF bF) λbo z1=>
 OP (aZ a0) λbu=>
 bM [(.int .u32 (0)),(.int .i64 (0))] z1 λL1 xs hx=>
 Vp P K a0 b1 bo bu L1 xs hx):=az (by kernel_rfl)
def DJ:Prop:=
 OP (aZ a0) λbw=>
 OP (aZ b1) λaW=>
 OP (ai .lss bw aW) λaN=>
 aK aN
 (BI P K b1 a0 h)
 (BI P K a0 b1 h)
theorem e41:ah P EF (aX [.tmp 4] K) (bG [a0,b1]) h=DJ P K a0 b1 h:=by kernel_rfl
theorem f41 {K:VK} {a0 b1:Value} {h:ae} (H:DJ prog K a0 b1 h):aw prog 41 [a0,b1] h K:=
 bW k41 (bT rfl) ((e41 prog K a0 b1 h).mpr H)
end
noncomputable section
variable (a0 b1 i5 : Value) (L1 : LQ) (xs : List Value) (h : ae)
def Tz:=bJ prog 42 [[],[],[],[],[],[],[],[],[0,1],[5],[],[],[],[],[],[],[],[],[],[]]
@[irreducible] def zv:=bU Tz
@[irreducible] def adx:=zv.r.r.l.r.l.l
@[irreducible] def ady:=zv.r.r.r
theorem k42:Tz=some (41,zv,[.tmp 4]):=by kernel_rfl
def Mc (_P:Program) (K:VK):aj:=aX [.tmp 4] K
def aas:aj:=aH (ah P ady (Mc P K)) (Mc P K)
def aaq:aj:=bk 0 (aas P K)
def aar:aj:=aH (λf' aJ=>(([0,1]:List Nat).map f':List Value)=[a0,b1]/\L1 (([5]:List Nat).map f') aJ) (aaq P K)
def Vs:Prop:=ay (ah P adx (aar P K a0 b1 L1)) ([0,1]++[5]) ([a0,b1]++xs) h
theorem am8 (a0 b1:Value) (L1:LQ) (i5:Value) (h:ae):Vs P K a0 b1 L1 [i5] h=
 (OP (ai .geq i5 (.int .i64 (0))) λbp=>
 aK bp
 (OP (aI 1 a0 i5) λaV=>
 OP (af false 1 h aV) λaO=>
 (True)/\
 OP (aI 1 b1 i5) λeZ=>
 OP (af false 1 h eZ) λdR=>
 (True)/\
 OP (ai .neq aO dR) λdp=>
 aK dp
 (OP (aI 1 a0 i5) λa9=>
 OP (af false 1 h a9) λbB=>
 (True)/\
 OP (aI 1 b1 i5) λeQ=>
 OP (af false 1 h eQ) λdL=>
 (True)/\
 OP (ai .lss bB dL) λct=>
 aK ct
 (K (.int .i64 (-1)) h)
 (K (.int .i64 (1)) h))
 (OP (ai .sub i5 (.int .i64 (1))) λbC=>
 ([a0,b1]:List Value)=[a0,b1]/\L1 [bC] h))
 (K (.int .i64 (0)) h)):=az (by kernel_rfl)
def DK:Prop:=
 OP (aZ a0) λx7=>
 OP (aZ b1) λx9=>
 OP (ai .neq x7 x9) λbw=>
 aK bw
 (OP (aZ a0) λaW=>
 OP (aZ b1) λaF=>
 OP (ai .lss aW aF) λaQ=>
 aK aQ
 (K (.int .i64 (-1)) h)
 (K (.int .i64 (1)) h))
 (OP (aZ a0) λbz=>
 OP (ai .sub bz (.int .i64 (1))) λbF=>
 bM [bF] h λL1 xs hx=>
 Vs P K a0 b1 L1 xs hx)
theorem e42:ah P zv (aX [.tmp 4] K) (bG [a0,b1]) h=DK P K a0 b1 h:=by kernel_rfl
theorem f42 {K:VK} {a0 b1:Value} {h:ae} (H:DK prog K a0 b1 h):aw prog 42 [a0,b1] h K:=
 bW k42 (bT rfl) ((e42 prog K a0 b1 h).mpr H)
end
noncomputable section
variable (a0 b1 x5 x6 i7 y8 aN aF : Value) (L1 : LQ) (xs : List Value) (h : ae)
def TA:=bJ prog 43 [[],[],[],[],[0,1,5,13],[6,14],[],[],[],[],[],[0,1,5,6,7,8,13,14],[0,1,5,6,13,14],[5],[]]
@[irreducible] def zw:=bU TA
@[irreducible] def EI:=zw.r.r.r.l.r.l.l
@[irreducible] def O0:=zw.r.r.r.r
@[irreducible] def adz:=EI.r.r.l.l.r.r.r.l
@[irreducible] def OZ:=EI.r.r.r
@[irreducible] def adB:=O0.l
@[irreducible] def adA:=OZ.l
theorem k43:TA=some (41,zw,[.tmp 4]):=by kernel_rfl
def CZ (_P:Program) (K:VK):aj:=aX [.tmp 4] K
def aav:aj:=aH (ah P O0 (CZ P K)) (CZ P K)
def aaw:aj:=bk 0 (aav P K)
def yG:aj:=aH (λf' aJ=>(([0,1,5,13]:List Nat).map f':List Value)=[a0,b1,x5,aN]/\L1 (([6,14]:List Nat).map f') aJ) (aaw P K)
def aat:aj:=aH (ah P OZ (yG P K a0 b1 x5 aN L1)) (yG P K a0 b1 x5 aN L1)
def aau:aj:=bk 1 (aat P K a0 b1 x5 aN L1)
def Vv:Prop:=ay (ah P EI (yG P K a0 b1 x5 aN L1)) ([0,1,5,13]++[6,14]) ([a0,b1,x5,aN]++xs) h
def BJ:Prop:=ay (ah P adz (aau P K a0 b1 x5 aN L1)) [0,1,5,6,7,8,13,14] [a0,b1,x5,x6,i7,y8,aN,aF] h
def Vt:Prop:=ay (ah P adA (yG P K a0 b1 x5 aN L1)) [0,1,5,6,13,14] [a0,b1,x5,x6,aN,aF] h
def Vu:Prop:=ay (ah P adB (CZ P K)) [5] [x5] h
theorem am9:BJ P K a0 b1 x5 x6 i7 y8 aN aF L1 h=
 (OP (aI 1 a0 i7) λdR=>
 OP (af false 1 h dR) λdp=>
 aw P 61 [dp,y8,x6] h λa9 z1=>
 OP (cd 0 a9) λbB=>
 OP (cd 1 a9) λcm=>
 OP (aI 1 x5 i7) λcJ=>
 OH (bE 1 z1 cJ bB) λ_ z2=>
 Vt P K a0 b1 x5 cm aN aF L1 z2):=az (by kernel_rfl)
theorem ana:Vt P K a0 b1 x5 x6 aN aF L1 h=
 (OP (ai .add aF (.int .i64 (1))) λeQ=>
 ([a0,b1,x5,aN]:List Value)=[a0,b1,x5,aN]/\L1 [x6,eQ] h):=az (by kernel_rfl)
theorem anc (a0 b1 x5 aN:Value) (L1:LQ) (x6 aF:Value) (h:ae):Vv P K a0 b1 x5 aN L1 [x6,aF] h=
 (OP (ai .lss aF aN) λaQ=>
 aK aQ
 (OP (aZ b1) λbo=>
 OP (ai .lss aF bo) λbp=>
 aK bp
 (OP (aI 1 b1 aF) λbI=>
 OP (af false 1 h bI) λbj=>
 BJ P K a0 b1 x5 x6 aF bj aN aF L1 h)
 (BJ P K a0 b1 x5 x6 aF (.int .u32 (0)) aN aF L1 h))
 (Vu P K x5 h)):=az (by kernel_rfl)
theorem anb:Vu P K x5 h=
 (aw P 39 [x5] h λct z1=>
 K ct z1):=az (by kernel_rfl)
def DL:Prop:=
 OP (aZ a0) λbw=>
 OH (jM 79 4 [(.int .u32 (0))] h bw bw) λaR z1=>
 OP (aZ a0) λaN=>
 bM [(.int .u32 (0)),(.int .i64 (0))] z1 λL1 xs hx=>
 Vv P K a0 b1 aR aN L1 xs hx
theorem e43:ah P zw (aX [.tmp 4] K) (bG [a0,b1]) h=DL P K a0 b1 h:=by kernel_rfl
theorem f43 {K:VK} {a0 b1:Value} {h:ae} (H:DL prog K a0 b1 h):aw prog 43 [a0,b1] h K:=
 bW k43 (bT rfl) ((e43 prog K a0 b1 h).mpr H)
end
noncomputable section
variable (x0 b3 q4 r5 i6 bp bj aO aP : Value) (L1 L2 : LQ) (xs : List Value) (h : ae)
def TC:=bJ prog 44 [[],[],[],[],[],[],[0,3],[],[],[],[],[4],[3,5,6],[3,4,5,6,20],[3,4,5,6,20,24],[3,4,5,6,20,24,26],[3,4,5,6,20,27],[],[],[],[],[3,4],[3],[],[]]
@[irreducible] def zx:=bU TC
@[irreducible] def EJ:=zx.r.r.r.l.l.l
@[irreducible] def O5:=zx.r.r.r.r
@[irreducible] def zy:=EJ.r.l.r.l.r.l.l
@[irreducible] def O1:=EJ.r.l.r.r
@[irreducible] def adG:=O5.l
@[irreducible] def O2:=zy.l.l.r.l
@[irreducible] def adD:=zy.l.r
@[irreducible] def adC:=zy.r
@[irreducible] def adF:=O1.l
@[irreducible] def O3:=O2.r.l
@[irreducible] def O4:=O3.r.l
@[irreducible] def adE:=O4.r.l
theorem k44:TC=some (45,zx,[.tmp 2]):=by kernel_rfl
def C0 (_P:Program) (K:VK):aj:=aX [.tmp 2] K
def aaz:aj:=aH (ah P O5 (C0 P K)) (C0 P K)
def aaA:aj:=bk 0 (aaz P K)
def Me:aj:=aH (λf' aJ=>(([]:List Nat).map f':List Value)=[]/\L1 (([0,3]:List Nat).map f') aJ) (aaA P K)
def C1:aj:=bk 1 (Me P K L1)
def aax:aj:=aH (ah P O1 (C1 P K L1)) (C1 P K L1)
def aay:aj:=bk 2 (aax P K L1)
def C2:aj:=aH (λf' aJ=>(([4]:List Nat).map f':List Value)=[q4]/\L2 (([3,5,6]:List Nat).map f') aJ) (aay P K L1)
def Md:aj:=aH (ah P adC (C2 P K q4 L1 L2)) (C2 P K q4 L1 L2)
def yH:aj:=aH (ah P adD (Md P K q4 L1 L2)) (Md P K q4 L1 L2)
def Vz:Prop:=ay (ah P EJ (Me P K L1)) ([]++[0,3]) ([]++xs) h
def Vw:Prop:=ay (ah P zy (C2 P K q4 L1 L2)) ([4]++[3,5,6]) ([q4]++xs) h
def Vx:Prop:=ay (ah P O2 (yH P K q4 L1 L2)) [3,4,5,6,20] [b3,q4,r5,i6,bp] h
def IJ:Prop:=ay (ah P O3 (yH P K q4 L1 L2)) [3,4,5,6,20,24] [b3,q4,r5,i6,bp,bj] h
def IK:Prop:=ay (ah P O4 (yH P K q4 L1 L2)) [3,4,5,6,20,24,26] [b3,q4,r5,i6,bp,bj,aO] h
def IL:Prop:=ay (ah P adE (yH P K q4 L1 L2)) [3,4,5,6,20,27] [b3,q4,r5,i6,bp,aP] h
def BK:Prop:=ay (ah P adF (C1 P K L1)) [3,4] [b3,q4] h
def Vy:Prop:=ay (ah P adG (C0 P K)) [3] [b3] h
theorem BV:IL P K b3 q4 r5 i6 bp aP L1 L2 h=
 (OP (cA bp aP (.bool false)) λaS=>
 aK aS
 (OP (ai .rem r5 (.int .u32 (10))) λca=>
 OP (ai .add (.int .u32 (48)) ca) λa9=>
 OP (fg .u8 a9) λbB=>
 OH (bq 5 1 [(.int .u8 (0))] h [(0,1,bB)]) λcm z1=>
 OH (cE 5 1 1 z1 b3 cm) λcJ z2=>
 OP (ai .quo r5 (.int .u32 (10))) λdL=>
 OP (ai .add i6 (.int .i64 (1))) λdR=>
 ([q4]:List Value)=[q4]/\L2 [cJ,dL,dR] z2)
 (BK P K b3 q4 L1 h)):=az (by kernel_rfl)
theorem BU:IK P K b3 q4 r5 i6 bp bj aO L1 L2 h=
 (b7 bp true
 (OP (cA bj (.bool true) aO) λaP=>
 IL P K b3 q4 r5 i6 bp aP L1 L2 h)
 (IL P K b3 q4 r5 i6 bp undef L1 L2 h)):=az (by kernel_rfl)
theorem Jz:IJ P K b3 q4 r5 i6 bp bj L1 L2 h=
 (b7 bj false
 (OP (ai .gtr r5 (.int .u32 (0))) λaO=>
 IK P K b3 q4 r5 i6 bp bj aO L1 L2 h)
 (IK P K b3 q4 r5 i6 bp bj undef L1 L2 h)):=az (by kernel_rfl)
theorem WX:Vx P K b3 q4 r5 i6 bp L1 L2 h=
 (b7 bp true
 (OP (aZ q4) λbC=>
 OP (ai .gtr bC (.int .i64 (0))) λbI=>
 IJ P K b3 q4 r5 i6 bp bI L1 L2 h)
 (IJ P K b3 q4 r5 i6 bp undef L1 L2 h)):=az (by kernel_rfl)
theorem ane (q4:Value) (L1 L2:LQ) (b3 r5 i6:Value) (h:ae):Vw P K q4 L1 L2 [b3,r5,i6] h=
 (OP (ai .lss i6 (.int .i64 (9))) λbo=>
 Vx P K b3 q4 r5 i6 bo L1 L2 h):=az (by kernel_rfl)
theorem anf:BK P K b3 q4 L1 h=
 (([]:List Value)=[]/\L1 [q4,b3] h):=az (by kernel_rfl)
theorem anh (L1:LQ) (x0 b3:Value) (h:ae):Vz P K L1 [x0,b3] h=
 (OP (aZ x0) λaR=>
 OP (ai .gtr aR (.int .i64 (0))) λaW=>
 aK aW
 (aw P 62 [x0,(.int .u32 (1000000000))] h λaQ z1=>
 OP (cd 0 aQ) λaM=>
 OP (cd 1 aQ) λbz=>
 bM [b3,bz,(.int .i64 (0))] z1 λL2 xs hx=>
 Vw P K aM L1 L2 xs hx)
 (Vy P K b3 h)):=az (by kernel_rfl)
theorem ang:Vy P K b3 h=
 (aw P 63 [b3] h λeA z1=>
 OP (mL z1 b3) λfA=>
 K fA z1):=az (by kernel_rfl)
def DM:Prop:=
 OP (aZ x0) λx8=>
 OP (ai .eql x8 (.int .i64 (0))) λx9=>
 aK x9
 (K (.string ⟨#[48]⟩) h)
 (bM [x0,(.slice none 0 0)] h λL1 xs hx=>
 Vz P K L1 xs hx)
theorem e44:ah P zx (aX [.tmp 2] K) (bG [x0]) h=DM P K x0 h:=by kernel_rfl
theorem f44 {K:VK} {x0:Value} {h:ae} (H:DM prog K x0 h):aw prog 44 [x0] h K:=
 bW k44 (bT rfl) ((e44 prog K x0 h).mpr H)
end
noncomputable section
variable (a0 a1 x8 aF : Value) (h : ae)
def TD:=bJ prog 45 [[],[1,8],[8,14],[]]
@[irreducible] def zz:=bU TD
@[irreducible] def O6:=zz.r.l.r.l
@[irreducible] def adH:=zz.r.r
@[irreducible] def adI:=O6.r.l
theorem k45:TD=some (16,zz,[.tmp 2]):=by kernel_rfl
def Mf (_P:Program) (K:VK):aj:=aX [.tmp 2] K
def Mg:aj:=aH (ah P adH (Mf P K)) (Mf P K)
def VA:Prop:=ay (ah P O6 (Mg P K)) [1,8] [a1,x8] h
def IM:Prop:=ay (ah P adI (Mg P K)) [8,14] [x8,aF] h
theorem JB:IM P K x8 aF h=
 (OP (cA x8 aF (.bool false)) λaQ=>
 K aQ h):=az (by kernel_rfl)
theorem JA:VA P K a1 x8 h=
 (b7 x8 true
 (OP (bD 2 a1) λx9=>
 OP (bD 1 x9) λbw=>
 OP (af false 1 h bw) λaR=>
 OP (aI 1 aR (.int .i64 (0))) λaW=>
 OP (af false 1 h aW) λaN=>
 OP (ai .eql aN (.int .u32 (1))) λaF=>
 IM P K x8 aF h)
 (IM P K x8 undef h)):=az (by kernel_rfl)
def yU:Prop:=
 OH (cQ 61 h a0) λa1 z1=>
 OP (bD 2 a1) λx3=>
 OP (bD 1 x3) λx4=>
 OP (af false 1 z1 x4) λx5=>
 OP (aZ x5) λx6=>
 OP (ai .eql x6 (.int .i64 (1))) λx7=>
 VA P K a1 x7 z1
theorem e45:ah P zz (aX [.tmp 2] K) (bG [a0]) h=yU P K a0 h:=by kernel_rfl
theorem f45 {K:VK} {a0:Value} {h:ae} (H:yU prog K a0 h):aw prog 45 [a0] h K:=
 bW k45 (bT rfl) ((e45 prog K a0 h).mpr H)
end
noncomputable section
variable (x0 x1 x2 x3 x4 : Value) (h : ae)
def TM:=bJ prog 51 [[],[],[2,3,4],[],[],[],[],[],[],[]]
@[irreducible] def EP:=bU TM
@[irreducible] def adW:=EP.r.r.l
theorem k51:TM=some (41,EP,[.cell true 4 4]):=by kernel_rfl
def aaO (_P:Program) (K:VK):aj:=aX [.cell true 4 4] K
def IW:Prop:=ay (ah P adW (aaO P K)) [2,3,4] [x2,x3,x4] h
theorem ant:IW P K x2 x3 x4 h=
 (OP (af true 2 h x2) λaM=>
 OP (af true 2 h x3) λbz=>
 aw P 65 [aM,bz] h λbF z1=>
 OH (cH 56 [(.bool false),(.slice none 0 0)] z1) λg5 z2=>
 OH (bE 2 z2 g5 bF) λ_ z3=>
 OP (af true 2 z3 g5) λbo=>
 (True)/\
 aw P 21 [(.int .i64 (1))] z3 λbp z4=>
 (af true 2 z4 g5=some bo/\True)/\
 aw P 66 [bo,bp] z4 λbu z5=>
 (True)/\
 OP (ai .eql bu (.int .i64 (0))) λbC=>
 aK bC
 (OP (af true 2 z5 x2) λbI=>
 OP (af true 2 z5 x3) λbj=>
 OP (jo [(.bool false),(.slice none 0 0),(.bool false),(.slice none 0 0)] [(0,2,bI),(2,2,bj)]) λaV=>
 OH (bE 4 z5 x4 aV) λ_ z6=>
 OP (af true 4 z6 x4) λr0=>
 K r0 z6)
 (OP (af true 2 z5 x2) λaP=>
 OP (af true 2 z5 g5) λaS=>
 aw P 67 [aP,aS] z5 λeZ z6=>
 OP (cd 0 eZ) λdR=>
 OP (cd 1 eZ) λdp=>
 OH (cH 56 [(.bool false),(.slice none 0 0)] z6) λn6 z7=>
 OH (cH 56 [(.bool false),(.slice none 0 0)] z7) λx7 z8=>
 OH (bE 2 z8 n6 dR) λ_ z9=>
 OH (bE 2 z9 x7 dp) λ_ yh=>
 OP (af true 2 yh x3) λca=>
 OP (af true 2 yh g5) λa9=>
 aw P 67 [ca,a9] yh λbB K8=>
 OP (cd 0 bB) λcm=>
 OP (cd 1 bB) λcJ=>
 OH (cH 56 [(.bool false),(.slice none 0 0)] K8) λd8 uG=>
 OH (cH 56 [(.bool false),(.slice none 0 0)] uG) λx9 z13=>
 OH (bE 2 z13 d8 cm) λ_ z14=>
 OH (bE 2 z14 x9 cJ) λ_ La=>
 OP (af true 2 La n6) λeQ=>
 OP (af true 2 La d8) λdL=>
 OP (jo [(.bool false),(.slice none 0 0),(.bool false),(.slice none 0 0)] [(0,2,eQ),(2,2,dL)]) λct=>
 OH (bE 4 La x4 ct) λ_ Yg=>
 OP (af true 4 Yg x4) λr0=>
 K r0 Yg)):=az (by kernel_rfl)
def DT:Prop:=
 OH (cQ 56 h x0) λx2 z1=>
 OH (cQ 56 z1 x1) λx3 z2=>
 OH (cH 61 [(.bool false),(.slice none 0 0),(.bool false),(.slice none 0 0)] z2) λx4 z3=>
 OP (bD 0 x3) λbw=>
 OP (af false 1 z3 bw) λaR=>
 aK aR
 (OP (af true 2 z3 x2) λaW=>
 (True)/\
 aw P 64 [aW] z3 λaN z4=>
 (True)/\
 OP (af true 2 z4 x3) λaF=>
 (af true 2 z3 x3=some aF/\True)/\
 aw P 64 [aF] z4 λaQ z5=>
 (True)/\
 OH (bE 2 z5 x2 aN) λ_ z6=>
 (True)/\
 OH (bE 2 z6 x3 aQ) λ_ z7=>
 (True)/\
 IW P K x2 x3 x4 z7)
 (IW P K x2 x3 x4 z3)
theorem e51:ah P EP (aX [.cell true 4 4] K) (bG [x0,x1]) h=DT P K x0 x1 h:=by kernel_rfl
theorem f51 {K:VK} {x0 x1:Value} {h:ae} (H:DT prog K x0 x1 h):aw prog 51 [x0,x1] h K:=
 bW k51 (bT rfl) ((e51 prog K x0 x1 h).mpr H)
end
noncomputable section
variable (a0 b1 : Value) (h : ae)
def TN:=bJ prog 52 [[],[]]
@[irreducible] def Pe:=bU TN
theorem k52:TN=some (16,Pe,[.cell true 2 4]):=by kernel_rfl
def DU:Prop:=
 OH (cQ 56 h a0) λa2 z1=>
 OH (cQ 56 z1 b1) λb3 z2=>
 OH (cH 56 [(.bool false),(.slice none 0 0)] z2) λx4 z3=>
 OP (bD 0 a2) λx5=>
 OP (af false 1 z3 x5) λx6=>
 (True)/\
 OP (bD 0 b3) λx7=>
 OP (af false 1 z3 x7) λx8=>
 (True)/\
 OP (lk true x6 x8) λx9=>
 OP (bD 1 a2) λbw=>
 OP (af false 1 z3 bw) λaR=>
 (True)/\
 OP (bD 1 b3) λaW=>
 OP (af false 1 z3 aW) λaN=>
 (True)/\
 aw P 68 [aR,aN] z3 λaF z4=>
 (af false 1 z4 x5=some x6/\af false 1 z4 x7=some x8/\True)/\
 aw P 38 [x9,aF] z4 λaQ z5=>
 (True)/\
 OH (bE 2 z5 x4 aQ) λ_ z6=>
 (True)/\
 OP (af true 2 z6 x4) λr0=>
 K r0 z6
theorem e52:ah P Pe (aX [.cell true 2 4] K) (bG [a0,b1]) h=DU P K a0 b1 h:=by kernel_rfl
theorem f52 {K:VK} {a0 b1:Value} {h:ae} (H:DU prog K a0 b1 h):aw prog 52 [a0,b1] h K:=
 bW k52 (bT rfl) ((e52 prog K a0 b1 h).mpr H)
end
noncomputable section
variable (x0 y1 x2 : Value) (h : ae)
def TR:=bJ prog 60 [[],[],[],[]]
@[irreducible] def Pk:=bU TR
theorem k60:TR=some (22,Pk,[.tmp 6,.tmp 7]):=by kernel_rfl
def DX (_P:Program) (K:VK) (x0 y1 x2:Value) (h:ae):Prop:=
 OP (fg .u64 x0) λbw=>
 OP (fg .u64 y1) λaW=>
 OP (ai .add bw aW) λaN=>
 OP (fg .u64 x2) λaQ=>
 OP (ai .add aN aQ) λaM=>
 OP (fg .u32 aM) λbF=>
 OP (ai .shr aM (.int .u64 (32))) λbp=>
 OP (fg .u32 bp) λbu=>
 K (.tuple #[bF,bu]) h
theorem e60:ah P Pk (aX [.tmp 6,.tmp 7] K) (bG [x0,y1,x2]) h=DX P K x0 y1 x2 h:=by kernel_rfl
theorem f60 {K:VK} {x0 y1 x2:Value} {h:ae} (H:DX prog K x0 y1 x2 h):aw prog 60 [x0,y1,x2] h K:=
 bW k60 (bT rfl) ((e60 prog K x0 y1 x2 h).mpr H)
end
noncomputable section
variable (x0 y1 x2 : Value) (h : ae)
def TS:=bJ prog 61 [[],[],[]]
@[irreducible] def Pl:=bU TS
theorem k61:TS=some (25,Pl,[.tmp 6,.tmp 7]):=by kernel_rfl
def DY (_P:Program) (K:VK) (x0 y1 x2:Value) (h:ae):Prop:=
 OP (ai .sub x0 y1) λbw=>
 OP (ai .sub bw x2) λaW=>
 OP (fG .xor x0) λaF=>
 OP (ai .and aF y1) λaM=>
 OP (ai .xor x0 y1) λbo=>
 OP (fG .xor bo) λbp=>
 OP (ai .and bp aW) λbC=>
 OP (ai .or aM bC) λbI=>
 OP (ai .shr bI (.int .u64 (31))) λbj=>
 K (.tuple #[aW,bj]) h
theorem e61:ah P Pl (aX [.tmp 6,.tmp 7] K) (bG [x0,y1,x2]) h=DY P K x0 y1 x2 h:=by kernel_rfl
theorem f61 {K:VK} {x0 y1 x2:Value} {h:ae} (H:DY prog K x0 y1 x2 h):aw prog 61 [x0,y1,x2] h K:=
 bW k61 (bT rfl) ((e61 prog K x0 y1 x2 h).mpr H)
end
noncomputable section
variable (a0 w1 x6 x7 i8 : Value) (L1 : LQ) (xs : List Value) (h : ae)
def TU:=bJ prog 62 [[],[],[],[],[0,1,6],[7,8],[],[],[],[],[6,7],[]]
@[irreducible] def zG:=bU TU
@[irreducible] def aea:=zG.r.r.r.l.r.l.l
@[irreducible] def Pm:=zG.r.r.r.r
@[irreducible] def ad9:=Pm.l
theorem k62:TU=some (44,zG,[.tmp 4,.tmp 5]):=by kernel_rfl
def Db (_P:Program) (K:VK):aj:=aX [.tmp 4,.tmp 5] K
def aaY:aj:=aH (ah P Pm (Db P K)) (Db P K)
def aaZ:aj:=bk 0 (aaY P K)
def aa0:aj:=aH (λf' aJ=>(([0,1,6]:List Nat).map f':List Value)=[a0,w1,x6]/\L1 (([7,8]:List Nat).map f') aJ) (aaZ P K)
def VS:Prop:=ay (ah P aea (aa0 P K a0 w1 x6 L1)) ([0,1,6]++[7,8]) ([a0,w1,x6]++xs) h
def VR:Prop:=ay (ah P ad9 (Db P K)) [6,7] [x6,x7] h
theorem anE (a0 w1 x6:Value) (L1:LQ) (x7 i8:Value) (h:ae):VS P K a0 w1 x6 L1 [x7,i8] h=
 (OP (ai .geq i8 (.int .i64 (0))) λbz=>
 aK bz
 (OP (ai .shl x7 (.int .u64 (32))) λbu=>
 OP (aI 1 a0 i8) λbj=>
 OP (af false 1 h bj) λaV=>
 OP (fg .u64 aV) λaO=>
 OP (ai .or bu aO) λaP=>
 OP (fg .u64 w1) λdf=>
 OP (ai .quo aP df) λca=>
 OP (fg .u32 ca) λa9=>
 OP (fg .u64 w1) λcJ=>
 OP (ai .rem aP cJ) λeQ=>
 OP (aI 1 x6 i8) λdL=>
 OH (bE 1 h dL a9) λ_ z1=>
 (True)/\
 OP (ai .sub i8 (.int .i64 (1))) λbo=>
 ([a0,w1,x6]:List Value)=[a0,w1,x6]/\L1 [eQ,bo] z1)
 (VR P K x6 x7 h)):=az (by kernel_rfl)
theorem anD:VR P K x6 x7 h=
 (aw P 39 [x6] h λkk z1=>
 OP (fg .u32 x7) λeE=>
 K (.tuple #[kk,eE]) z1):=az (by kernel_rfl)
def DZ:Prop:=
 OP (aZ a0) λaR=>
 OH (jM 79 4 [(.int .u32 (0))] h aR aR) λaW z1=>
 OP (aZ a0) λaF=>
 OP (ai .sub aF (.int .i64 (1))) λaQ=>
 bM [(.int .u64 (0)),aQ] z1 λL1 xs hx=>
 VS P K a0 w1 aW L1 xs hx
theorem e62:ah P zG (aX [.tmp 4,.tmp 5] K) (bG [a0,w1]) h=DZ P K a0 w1 h:=by kernel_rfl
theorem f62 {K:VK} {a0 w1:Value} {h:ae} (H:DZ prog K a0 w1 h):aw prog 62 [a0,w1] h K:=
 bW k62 (bT rfl) ((e62 prog K a0 w1 h).mpr H)
end
noncomputable section
variable (s0 i2 j3 : Value) (L1 : LQ) (xs : List Value) (h : ae)
def TV:=bJ prog 63 [[],[0],[2,3],[],[],[]]
@[irreducible] def ES:=bU TV
@[irreducible] def aeb:=ES.r.l.l
theorem k63:TV=some (28,ES,[]):=by kernel_rfl
def aa1 (_P:Program) (K:VK):aj:=aX [] K
def aa2:aj:=bk 0 (aa1 P K)
def aa3:aj:=aH (λf' aJ=>(([0]:List Nat).map f':List Value)=[s0]/\L1 (([2,3]:List Nat).map f') aJ) (aa2 P K)
def VT:Prop:=ay (ah P aeb (aa3 P K s0 L1)) ([0]++[2,3]) ([s0]++xs) h
theorem anF (s0:Value) (L1:LQ) (i2 j3:Value) (h:ae):VT P K s0 L1 [i2,j3] h=
 (OP (ai .lss i2 j3) λx9=>
 aK x9
 (OP (aI 1 s0 j3) λbp=>
 OP (af false 1 h bp) λbu=>
 (True)/\
 OP (aI 1 s0 i2) λbj=>
 OP (af false 1 h bj) λaV=>
 (True)/\
 OP (aI 1 s0 i2) λaO=>
 OH (bE 1 h aO bu) λ_ z1=>
 (True)/\
 OP (aI 1 s0 j3) λaP=>
 OH (bE 1 z1 aP aV) λ_ z2=>
 (True)/\
 OP (ai .add i2 (.int .i64 (1))) λaR=>
 OP (ai .sub j3 (.int .i64 (1))) λaN=>
 ([s0]:List Value)=[s0]/\L1 [aR,aN] z2)
 (K (.tuple #[]) h)):=az (by kernel_rfl)
def D6:Prop:=
 OP (aZ s0) λx5=>
 OP (ai .sub x5 (.int .i64 (1))) λx6=>
 bM [(.int .i64 (0)),x6] h λL1 xs hx=>
 VT P K s0 L1 xs hx
theorem e63:ah P ES (aX [] K) (bG [s0]) h=D6 P K s0 h:=by kernel_rfl
theorem f63 {K:VK} {s0:Value} {h:ae} (H:D6 prog K s0 h):aw prog 63 [s0] h K:=
 bW k63 (bT rfl) ((e63 prog K s0 h).mpr H)
end
noncomputable section
variable (a0 : Value) (h : ae)
def TW:=bJ prog 64 [[],[]]
@[irreducible] def Pn:=bU TW
theorem k64:TW=some (9,Pn,[.cell true 2 2]):=by kernel_rfl
def D7:Prop:=
 OH (cQ 56 h a0) λa1 z1=>
 OH (cH 56 [(.bool false),(.slice none 0 0)] z1) λx2 z2=>
 OP (bD 0 a1) λx3=>
 OP (af false 1 z2 x3) λx4=>
 OP (fG .not x4) λx5=>
 OP (bD 1 a1) λx6=>
 OP (af false 1 z2 x6) λx7=>
 aw P 38 [x5,x7] z2 λx8 z3=>
 OH (bE 2 z3 x2 x8) λ_ z4=>
 OP (af true 2 z4 x2) λr0=>
 K r0 z4
theorem e64:ah P Pn (aX [.cell true 2 2] K) (bG [a0]) h=D7 P K a0 h:=by kernel_rfl
theorem f64 {K:VK} {a0:Value} {h:ae} (H:D7 prog K a0 h):aw prog 64 [a0] h K:=
 bW k64 (bT rfl) ((e64 prog K a0 h).mpr H)
end
noncomputable section
variable (a0 b1 x4 x5 y6 : Value) (L1 : LQ) (xs : List Value) (h : ae)
def TX:=bJ prog 65 [[],[],[4],[5,6],[],[],[],[4,5],[]]
@[irreducible] def zH:=bU TX
@[irreducible] def aed:=zH.r.r.l.l.l
@[irreducible] def Po:=zH.r.r.r
@[irreducible] def aec:=Po.l
theorem k65:TX=some (26,zH,[.cell true 2 4]):=by kernel_rfl
def Dc (_P:Program) (K:VK):aj:=aX [.cell true 2 4] K
def aa4:aj:=aH (ah P Po (Dc P K)) (Dc P K)
def aa5:aj:=bk 0 (aa4 P K)
def aa6:aj:=aH (λf' aJ=>(([4]:List Nat).map f':List Value)=[x4]/\L1 (([5,6]:List Nat).map f') aJ) (aa5 P K)
def VV:Prop:=ay (ah P aed (aa6 P K x4 L1)) ([4]++[5,6]) ([x4]++xs) h
def VU:Prop:=ay (ah P aec (Dc P K)) [4,5] [x4,x5] h
theorem anH (x4:Value) (L1:LQ) (x5 y6:Value) (h:ae):VV P K x4 L1 [x5,y6] h=
 (OP (aZ y6) λaF=>
 OP (ai .gtr aF (.int .i64 (0))) λaQ=>
 aK aQ
 (aw P 89 [x5,y6] h λbo z1=>
 OP (cd 0 bo) λbp=>
 OP (cd 1 bo) λbu=>
 ([x4]:List Value)=[x4]/\L1 [y6,bu] z1)
 (VU P K x4 x5 h)):=az (by kernel_rfl)
theorem anG:VU P K x4 x5 h=
 (aw P 38 [(.bool false),x5] h λaV z1=>
 OH (bE 2 z1 x4 aV) λ_ z2=>
 OP (af true 2 z2 x4) λr0=>
 K r0 z2):=az (by kernel_rfl)
def D8:Prop:=
 OH (cQ 56 h a0) λa2 z1=>
 OH (cQ 56 z1 b1) λb3 z2=>
 OH (cH 56 [(.bool false),(.slice none 0 0)] z2) λx4 z3=>
 OP (bD 1 a2) λx9=>
 OP (af false 1 z3 x9) λbw=>
 (True)/\
 OP (bD 1 b3) λaR=>
 OP (af false 1 z3 aR) λaW=>
 (True)/\
 bM [bw,aW] z3 λL1 xs hx=>
 VV P K x4 L1 xs hx
theorem e65:ah P zH (aX [.cell true 2 4] K) (bG [a0,b1]) h=D8 P K a0 b1 h:=by kernel_rfl
theorem f65 {K:VK} {a0 b1:Value} {h:ae} (H:D8 prog K a0 b1 h):aw prog 65 [a0,b1] h K:=
 bW k65 (bT rfl) ((e65 prog K a0 b1 h).mpr H)
end
noncomputable section
variable (a0 b1 : Value) (h : ae)
def TY:=bJ prog 66 [[],[]]
@[irreducible] def Pp:=bU TY
theorem k66:TY=some (9,Pp,[.tmp 4]):=by kernel_rfl
def D9:Prop:=
 OH (cQ 56 h a0) λa2 z1=>
 OH (cQ 56 z1 b1) λb3 z2=>
 OP (af true 2 z2 a2) λx5=>
 OP (af true 2 z2 b3) λx6=>
 aw P 90 [x5,x6] z2 λx7 z3=>
 aw P 91 [x7] z3 λx8 z4=>
 K x8 z4
theorem e66:ah P Pp (aX [.tmp 4] K) (bG [a0,b1]) h=D9 P K a0 b1 h:=by kernel_rfl
theorem f66 {K:VK} {a0 b1:Value} {h:ae} (H:D9 prog K a0 b1 h):aw prog 66 [a0,b1] h K:=
 bW k66 (bT rfl) ((e66 prog K a0 b1 h).mpr H)
end
noncomputable section
variable (a0 b1 a2 b3 x4 x5 x8 y9 df cJ : Value) (h : ae)
def TZ:=bJ prog 67 [[],[],[],[2,3,4,5,8,9,32],[3,4,5,8,9,32,37],[],[4,5,8,9],[]]
@[irreducible] def vc:=bU TZ
@[irreducible] def Ps:=vc.r.r.r.l.l.r.l
@[irreducible] def aef:=vc.r.r.r.l.r
@[irreducible] def Pq:=vc.r.r.r.r
@[irreducible] def aeg:=Ps.r.l
@[irreducible] def aee:=Pq.l
theorem k67:TZ=some (47,vc,[.cell true 2 4,.cell true 2 5]):=by kernel_rfl
def Dd (_P:Program) (K:VK):aj:=aX [.cell true 2 4,.cell true 2 5] K
def Mu:aj:=aH (ah P Pq (Dd P K)) (Dd P K)
def Mv:aj:=aH (ah P aef (Mu P K)) (Mu P K)
def VW:Prop:=ay (ah P Ps (Mv P K)) [2,3,4,5,8,9,32] [a2,b3,x4,x5,x8,y9,df] h
def I1:Prop:=ay (ah P aeg (Mv P K)) [3,4,5,8,9,32,37] [b3,x4,x5,x8,y9,df,cJ] h
def I0:Prop:=ay (ah P aee (Dd P K)) [4,5,8,9] [x4,x5,x8,y9] h
theorem anK:I1 P K b3 x4 x5 x8 y9 df cJ h=
 (OP (cA df cJ (.bool false)) λeQ=>
 aK eQ
 (OP (af true 2 h x8) λdL=>
 (True)/\
 aw P 21 [(.int .i64 (1))] h λct z1=>
 (af true 2 z1 x8=some dL/\True)/\
 aw P 90 [dL,ct] z1 λkk z2=>
 (True)/\
 OP (af true 2 z2 y9) λeA=>
 (af true 2 h y9=some eA/\af true 2 z1 y9=some eA/\True)/\
 OP (af true 2 z2 b3) λeE=>
 (af true 2 h b3=some eE/\af true 2 z1 b3=some eE/\True)/\
 aw P 23 [eA,eE] z2 λfA z3=>
 (True)/\
 OH (bE 2 z3 x8 kk) λ_ z4=>
 (True)/\
 OH (bE 2 z4 y9 fA) λ_ z5=>
 (True)/\
 I0 P K x4 x5 x8 y9 z5)
 (I0 P K x4 x5 x8 y9 h)):=az (by kernel_rfl)
theorem anJ:VW P K a2 b3 x4 x5 x8 y9 df h=
 (b7 df true
 (OP (bD 0 a2) λca=>
 OP (af false 1 h ca) λa9=>
 OP (bD 0 b3) λbB=>
 OP (af false 1 h bB) λcm=>
 OP (lk true a9 cm) λcJ=>
 I1 P K b3 x4 x5 x8 y9 df cJ h)
 (I1 P K b3 x4 x5 x8 y9 df undef h)):=az (by kernel_rfl)
theorem anI:I0 P K x4 x5 x8 y9 h=
 (OP (af true 2 h x8) λhZ=>
 (True)/\
 OP (af true 2 h y9) λgr=>
 (True)/\
 OH (bE 2 h x4 hZ) λ_ z1=>
 (af true 2 z1 y9=some gr/\True)/\
 OH (bE 2 z1 x5 gr) λ_ z2=>
 (True)/\
 OP (af true 2 z2 x4) λr0=>
 OP (af true 2 z2 x5) λr1=>
 K (.tuple #[r0,r1]) z2):=az (by kernel_rfl)
def Ea:Prop:=
 OH (cQ 56 h a0) λa2 z1=>
 OH (cQ 56 z1 b1) λb3 z2=>
 OH (cH 56 [(.bool false),(.slice none 0 0)] z2) λx4 z3=>
 OH (cH 56 [(.bool false),(.slice none 0 0)] z3) λx5 z4=>
 OP (bD 1 a2) λaR=>
 OP (af false 1 z4 aR) λaW=>
 OP (bD 1 b3) λaN=>
 OP (af false 1 z4 aN) λaF=>
 aw P 89 [aW,aF] z4 λaQ z5=>
 OP (cd 0 aQ) λaM=>
 OP (cd 1 aQ) λbz=>
 OH (cH 56 [(.bool false),(.slice none 0 0)] z5) λx8 z6=>
 OP (cF z6 x8) λu=>
 (True)/\
 OH (cH 56 [(.bool false),(.slice none 0 0)] z6) λy9 z7=>
 OP (cF z7 y9) λx1=>
 (cF z7 x8=some u/\True)/\
 OP (bD 0 a2) λbF=>
 OP (af false 1 z7 bF) λbo=>
 (af false 1 z5 bF=some bo/\af false 1 z6 bF=some bo/\True)/\
 OP (bD 0 b3) λbp=>
 OP (af false 1 z7 bp) λbu=>
 (af false 1 z5 bp=some bu/\af false 1 z6 bp=some bu/\True)/\
 OP (lk true bo bu) λbC=>
 aw P 38 [bC,aM] z7 λbj z8=>
 (cF z8 x8=some u/\cF z8 y9=some x1/\True)/\
 OP (bD 0 a2) λaV=>
 OP (af false 1 z8 aV) λaO=>
 (af false 1 z5 aV=some aO/\af false 1 z6 aV=some aO/\af false 1 z7 aV=some aO/\True)/\
 aw P 38 [aO,bz] z8 λaS z9=>
 (cF z9 x8=some u/\cF z9 y9=some x1/\True)/\
 OH (bE 2 z9 x8 bj) λ_ yh=>
 (True)/\
 OH (bE 2 yh y9 aS) λ_ K8=>
 (True)/\
 OP (aZ bz) λdR=>
 OP (ai .gtr dR (.int .i64 (0))) λdp=>
 VW P K a2 b3 x4 x5 x8 y9 dp K8
theorem e67:ah P vc (aX [.cell true 2 4,.cell true 2 5] K) (bG [a0,b1]) h=Ea P K a0 b1 h:=by kernel_rfl
theorem f67 {K:VK} {a0 b1:Value} {h:ae} (H:Ea prog K a0 b1 h):aw prog 67 [a0,b1] h K:=
 bW k67 (bT rfl) ((e67 prog K a0 b1 h).mpr H)
end
noncomputable section
variable (a0 b1 x5 i6 x7 x8 bF bo bp aV aO aP : Value) (L1 L2 : LQ) (xs : List Value) (h : ae)
def T2:=bJ prog 68 [[],[],[],[1,5,18,19],[20],[],[],[],[],[],[1,5,6,7,18,19,20,25,26],[8,27],[],[],[],[],[],[1,5,6,8,18,19,20],[1,5,18,19,20],[5],[]]
@[irreducible] def zI:=bU T2
@[irreducible] def zJ:=zI.r.r.l.r.l.l
@[irreducible] def Pu:=zI.r.r.r
@[irreducible] def aeh:=zJ.r.r.l.l.r.r.l.r.l.l
@[irreducible] def Pt:=zJ.r.r.l.l.r.r.r
@[irreducible] def Pv:=zJ.r.r.r
@[irreducible] def aek:=Pu.l
@[irreducible] def aei:=Pt.l
@[irreducible] def aej:=Pv.l
theorem k68:T2=some (68,zI,[.tmp 4]):=by kernel_rfl
def De (_P:Program) (K:VK):aj:=aX [.tmp 4] K
def aba:aj:=aH (ah P Pu (De P K)) (De P K)
def abb:aj:=bk 0 (aba P K)
def yM:aj:=aH (λf' aJ=>(([1,5,18,19]:List Nat).map f':List Value)=[b1,x5,bF,bo]/\L1 (([20]:List Nat).map f') aJ) (abb P K)
def abc:aj:=aH (ah P Pv (yM P K b1 x5 bF bo L1)) (yM P K b1 x5 bF bo L1)
def Df:aj:=bk 1 (abc P K b1 x5 bF bo L1)
def aa7:aj:=aH (ah P Pt (Df P K b1 x5 bF bo L1)) (Df P K b1 x5 bF bo L1)
def aa8:aj:=bk 2 (aa7 P K b1 x5 bF bo L1)
def aa9:aj:=aH (λf' aJ=>(([1,5,6,7,18,19,20,25,26]:List Nat).map f':List Value)=[b1,x5,i6,x7,bF,bo,bp,aV,aO]/\L2 (([8,27]:List Nat).map f') aJ) (aa8 P K b1 x5 bF bo L1)
def V1:Prop:=ay (ah P zJ (yM P K b1 x5 bF bo L1)) ([1,5,18,19]++[20]) ([b1,x5,bF,bo]++xs) h
def VX:Prop:=ay (ah P aeh (aa9 P K b1 x5 i6 x7 bF bo bp aV aO L1 L2)) ([1,5,6,7,18,19,20,25,26]++[8,27]) ([b1,x5,i6,x7,bF,bo,bp,aV,aO]++xs) h
def VY:Prop:=ay (ah P aei (Df P K b1 x5 bF bo L1)) [1,5,6,8,18,19,20] [b1,x5,i6,x8,bF,bo,bp] h
def VZ:Prop:=ay (ah P aej (yM P K b1 x5 bF bo L1)) [1,5,18,19,20] [b1,x5,bF,bo,bp] h
def V0:Prop:=ay (ah P aek (De P K)) [5] [x5] h
theorem anL (b1 x5 i6 x7 bF bo bp aV aO:Value) (L1 L2:LQ) (x8 aP:Value) (h:ae):VX P K b1 x5 i6 x7 bF bo bp aV aO L1 L2 [x8,aP] h=
 (OP (ai .lss aP aO) λaS=>
 aK aS
 (OP (aI 1 aV aP) λdR=>
 OP (af false 1 h dR) λdp=>
 OP (fg .u64 x7) λca=>
 OP (fg .u64 dp) λbB=>
 OP (ai .mul ca bB) λcm=>
 OP (ai .add i6 aP) λct=>
 OP (aI 1 x5 ct) λkk=>
 OP (af false 1 h kk) λeA=>
 OP (fg .u64 eA) λeE=>
 OP (ai .add cm eE) λfA=>
 OP (ai .add fA x8) λgr=>
 OP (ai .add i6 aP) λgu=>
 OP (fg .u32 gr) λfB=>
 OP (ai .shr gr (.int .u64 (32))) λfJ=>
 OP (aI 1 x5 gu) λjR=>
 OH (bE 1 h jR fB) λ_ z1=>
 OP (ai .add aP (.int .i64 (1))) λcf=>
 ([b1,x5,i6,x7,bF,bo,bp,aV,aO]:List Value)=[b1,x5,i6,x7,bF,bo,bp,aV,aO]/\L2 [fJ,cf] z1)
 (VY P K b1 x5 i6 x8 bF bo bp L1 h)):=az (by kernel_rfl)
theorem anM:VY P K b1 x5 i6 x8 bF bo bp L1 h=
 (OP (aZ b1) λb9=>
 OP (ai .add i6 b9) λdS=>
 OP (fg .u32 x8) λsw=>
 OP (aI 1 x5 dS) λph=>
 OH (bE 1 h ph sw) λ_ z1=>
 VZ P K b1 x5 bF bo bp L1 z1):=az (by kernel_rfl)
theorem anN:VZ P K b1 x5 bF bo bp L1 h=
 (OP (ai .add bp (.int .i64 (1))) λkm=>
 ([b1,x5,bF,bo]:List Value)=[b1,x5,bF,bo]/\L1 [km] h):=az (by kernel_rfl)
theorem anP (b1 x5 bF bo:Value) (L1:LQ) (bp:Value) (h:ae):V1 P K b1 x5 bF bo L1 [bp] h=
 (OP (ai .lss bp bo) λbu=>
 aK bu
 (OP (aI 1 bF bp) λbI=>
 OP (af false 1 h bI) λbj=>
 OP (aZ b1) λaO=>
 bM [(.int .u64 (0)),(.int .i64 (0))] h λL2 xs hx=>
 VX P K b1 x5 bp bj bF bo bp b1 aO L1 L2 xs hx)
 (V0 P K x5 h)):=az (by kernel_rfl)
theorem anO:V0 P K x5 h=
 (aw P 39 [x5] h λsA z1=>
 K sA z1):=az (by kernel_rfl)
def Eb:Prop:=
 OP (aZ a0) λaN=>
 OP (aZ b1) λaQ=>
 OP (ai .add aN aQ) λaM=>
 OH (jM 79 4 [(.int .u32 (0))] h aM aM) λbz z1=>
 OP (aZ a0) λbo=>
 bM [(.int .i64 (0))] z1 λL1 xs hx=>
 V1 P K b1 bz a0 bo L1 xs hx
theorem e68:ah P zI (aX [.tmp 4] K) (bG [a0,b1]) h=Eb P K a0 b1 h:=by kernel_rfl
theorem f68 {K:VK} {a0 b1:Value} {h:ae} (H:Eb prog K a0 b1 h):aw prog 68 [a0,b1] h K:=
 bW k68 (bT rfl) ((e68 prog K a0 b1 h).mpr H)
end
noncomputable section
variable (a0 b1 x8 v9 J6 Ho Jg : Value) (L1 : LQ) (xs : List Value) (h : ae)
def Uf:=bJ prog 89 [[],[],[],[],[],[],[],[],[],[],[],[],[],[8,9,10,11,12],[13],[],[],[],[8,10,11,12],[]]
@[irreducible] def zO:=bU Uf
@[irreducible] def aey:=zO.r.r.r.r.r.r.r.l.r.l.l
@[irreducible] def PF:=zO.r.r.r.r.r.r.r.r
@[irreducible] def arv:=PF.l
theorem k89:Uf=some (85,zO,[.tmp 4,.tmp 5]):=by kernel_rfl
def MA (_P:Program) (K:VK):aj:=aX [.tmp 4,.tmp 5] K
def abB:aj:=aH (ah P PF (MA P K)) (MA P K)
def abC:aj:=bk 0 (abB P K)
def abD:aj:=aH (λf' aJ=>(([8,9,10,11,12]:List Nat).map f':List Value)=[x8,v9,J6,Ho,Jg]/\L1 (([13]:List Nat).map f') aJ) (abC P K)
def alw:Prop:=ay (ah P aey (abD P K x8 v9 J6 Ho Jg L1)) ([8,9,10,11,12]++[13]) ([x8,v9,J6,Ho,Jg]++xs) h
def Ee:Prop:=
 aw P 42 [a0,b1] h λaM z1=>
 OP (ai .lss aM (.int .i64 (0))) λbz=>
 aK bz
 (OH (cE 79 1 4 z1 (.slice none 0 0) a0) λbo z2=>
 K (.tuple #[(.slice none 0 0),bo]) z2)
 (OP (aZ b1) λbu=>
 OP (ai .eql bu (.int .i64 (1))) λbC=>
 aK bC
 (OP (aI 1 b1 (.int .i64 (0))) λaO=>
 OP (af false 1 z1 aO) λaP=>
 aw P 62 [a0,aP] z1 λaS z2=>
 OP (cd 0 aS) λeZ=>
 OP (cd 1 aS) λdR=>
 OH (bq 79 1 [(.int .u32 (0))] z2 [(0,1,dR)]) λca z3=>
 aw P 39 [ca] z3 λa9 z4=>
 K (.tuple #[eZ,a9]) z4)
 (OP (aZ b1) λcJ=>
 OP (ai .sub cJ (.int .i64 (1))) λeQ=>
 OP (aI 1 b1 eQ) λdL=>
 OP (af false 1 z1 dL) λct=>
 aw P 104 [ct] z1 λkk z2=>
 aw P 105 [b1,kk] z2 λfA z3=>
 aw P 39 [fA] z3 λhZ z4=>
 aw P 105 [a0,kk] z4 λdh z5=>
 OP (aZ hZ) λgu=>
 OP (aZ a0) λfB=>
 OP (ai .sub fB gu) λfJ=>
 OP (ai .add fJ (.int .i64 (1))) λjR=>
 OH (jM 79 4 [(.int .u32 (0))] z5 jR jR) λcf z6=>
 OP (aZ a0) λkl=>
 OP (ai .sub kl gu) λb9=>
 bM [b9] z6 λL1 xs hx=>
 alw P K kk hZ dh gu cf L1 xs hx))
theorem e89:ah P zO (aX [.tmp 4,.tmp 5] K) (bG [a0,b1]) h=Ee P K a0 b1 h:=by kernel_rfl
theorem f89 {K:VK} {a0 b1:Value} {h:ae} (H:Ee prog K a0 b1 h):aw prog 89 [a0,b1] h K:=
 bW k89 (bT rfl) ((e89 prog K a0 b1 h).mpr H)
end
noncomputable section
variable (a0 b1 : Value) (h : ae)
def Uh:=bJ prog 90 [[],[]]
@[irreducible] def PL:=bU Uh
theorem k90:Uh=some (9,PL,[.cell true 2 4]):=by kernel_rfl
def Ef:Prop:=
 OH (cQ 56 h a0) λa2 z1=>
 OH (cQ 56 z1 b1) λb3 z2=>
 OH (cH 56 [(.bool false),(.slice none 0 0)] z2) λx4 z3=>
 OP (af true 2 z3 a2) λx5=>
 (True)/\
 OP (af true 2 z3 b3) λx6=>
 (True)/\
 aw P 64 [x6] z3 λx7 z4=>
 (af true 2 z4 a2=some x5/\True)/\
 aw P 23 [x5,x7] z4 λx8 z5=>
 (True)/\
 OH (bE 2 z5 x4 x8) λ_ z6=>
 (True)/\
 OP (af true 2 z6 x4) λr0=>
 K r0 z6
theorem e90:ah P PL (aX [.cell true 2 4] K) (bG [a0,b1]) h=Ef P K a0 b1 h:=by kernel_rfl
theorem f90 {K:VK} {a0 b1:Value} {h:ae} (H:Ef prog K a0 b1 h):aw prog 90 [a0,b1] h K:=
 bW k90 (bT rfl) ((e90 prog K a0 b1 h).mpr H)
end
noncomputable section
variable (a0 : Value) (h : ae)
def Ui:=bJ prog 91 [[],[],[],[],[],[],[]]
@[irreducible] def PM:=bU Ui
theorem k91:Ui=some (11,PM,[.tmp 2]):=by kernel_rfl
def Eg (_P:Program) (K:VK) (a0:Value) (h:ae):Prop:=
 OH (cQ 56 h a0) λa1 z1=>
 OP (bD 1 a1) λx4=>
 OP (af false 1 z1 x4) λx5=>
 OP (aZ x5) λx6=>
 OP (ai .eql x6 (.int .i64 (0))) λx7=>
 aK x7
 (K (.int .i64 (0)) z1)
 (OP (bD 0 a1) λx9=>
 OP (af false 1 z1 x9) λbw=>
 aK bw
 (K (.int .i64 (-1)) z1)
 (K (.int .i64 (1)) z1))
theorem e91:ah P PM (aX [.tmp 2] K) (bG [a0]) h=Eg P K a0 h:=by kernel_rfl
theorem f91 {K:VK} {a0:Value} {h:ae} (H:Eg prog K a0 h):aw prog 91 [a0] h K:=
 bW k91 (bT rfl) ((e91 prog K a0 h).mpr H)
end
end
end Go.Proofs.YtncaiogfjjepcaaGreatDoor
namespace Go.Sim
section
abbrev yk:=Option (Exit×(Nat->Value)×ae)
abbrev hG:=Fn->List Value->ae->Option (Value×ae)
def Co:Value->Value->Bool
 | .int k a,.int k' b=>decide (k=k')&&decide (a=b)
 | .bool a,.bool b=>a==b
 | .string s,.string t=>decide (bytes s=bytes t)
 | .pointer (some ⟨i,o,none⟩),.pointer (some ⟨j,p,none⟩)=>Nat.beq i j&&Nat.beq o p
 | .slice none a b,.slice none c d=>Nat.beq a c&&Nat.beq b d
 | .slice (some ⟨i,o,some e⟩) a b,.slice (some ⟨j,p,some e'⟩) c d=>Nat.beq i j&&Nat.beq o p&&Nat.beq e e'&&Nat.beq a c&&Nat.beq b d
 | _,_=>false
theorem X2 {a b:Value} (h:Co a b=true):a=b:=by
 unfold Co at h
 split at h
 ·simp at h;rw [h.1,h.2]
 ·simp at h;rw [h]
 ·rename_i s t
  simp at h
  have:=wF s
  rw [h,wF] at this
  rw [this]
 ·simp only [and_eq_true] at h
  rw [eq_of_beq_eq_true h.1,eq_of_beq_eq_true h.2]
 ·simp only [and_eq_true] at h
  rw [eq_of_beq_eq_true h.1,eq_of_beq_eq_true h.2]
 ·simp only [and_eq_true] at h
  obtain ⟨⟨⟨⟨h1,h2⟩,h3⟩,h4⟩,h5⟩:=h
  rw [eq_of_beq_eq_true h1,eq_of_beq_eq_true h2,eq_of_beq_eq_true h3,eq_of_beq_eq_true h4,eq_of_beq_eq_true h5]
 ·cases h
def uz:List Value->List Value->Bool
 | [],[]=>true
 | x::xs,y::ys=>Co x y&&uz xs ys
 | _,_=>false
theorem Cp:∀{xs ys:List Value},uz xs ys=true->xs=ys
 | [],[],_=>rfl
 | x::xs,y::ys,h=>by
  simp only [uz,and_eq_true] at h
  rw [X2 h.1,Cp h.2]
 | [],_::_,h=>by cases h
 | _::_,[],h=>by cases h
def Cn:Value->Value->Bool
 | .agg xs,.agg ys=>uz xs.toList ys.toList
 | a,b=>Co a b
theorem X3 {a b:Value} (h:Cn a b=true):a=b:=by
 unfold Cn at h
 split at h
 ·rw [Array.ext' (Cp h)]
 ·exact X2 h
def nQ (P:Program) (call:hG) (io:eI) (f:Nat->Value) (h:ae):Option (Value×ae):=
 match io with
 | .p o=>match fH o (ev f) with | some v=>some (v,h) | none=>none
 | .l o=>match dJ o (ev f) h with | some v=>some (v,h) | none=>none
 | .e o=>dY o (ev f) h
 | .call g args=>call (.func g) (args.map (ev f)) h
 | .hK x args=>
  match ev f x with
  | .func (.func g) first cap=>if nu P g=true then call (.func g) (first.toList++args.map (ev f)++cap.toList) h else none
  | .func (.yield i) first cap=>if first.size=0/\cap.size=0 then call (.yield i) (args.map (ev f)) h else none
  | _=>none
structure lY (P:Program) (call:hG):Prop where
 fn:∀F args h v h',call (.func F) args h=some (v,h')->px P F args h v h'
 yi:∀i args h v h',call (.yield i) args h=some (v,h')->CM P i args h v h'
section
variable {P : Program} {call : hG} (HC : lY P call)
include HC
theorem wQ {io:eI} {f:Nat->Value} {h h':ae} {v:Value} {K:Value->ae->Prop} (he:nQ P call io f h=some (v,h')) (hk:K v h'):bY P io f h K:=by
 cases io with
 | p o=>
  simp only [nQ] at he
  split at he
  ·rename_i u hu
   simp at he
   obtain ⟨rfl,rfl⟩:=he
   simp [bY,dK,hu,hk]
  ·cases he
 | l o=>
  simp only [nQ] at he
  split at he
  ·rename_i u hu
   simp at he
   obtain ⟨rfl,rfl⟩:=he
   simp [bY,dK,hu,hk]
  ·cases he
 | e o=>
  simp only [nQ] at he
  simp [bY,jc,he,hk]
 | call g args=>exact ⟨v,h',HC.fn _ _ _ _ _ he,hk⟩
 | hK x args=>
  simp only [nQ] at he
  simp only [bY,nv]
  split at he
  ·rename_i g first cap hx
   rw [hx]
   split at he
   ·rename_i iY
    exact ⟨iY,v,h',HC.fn _ _ _ _ _ he,hk⟩
   ·cases he
  ·rename_i i first cap hx
   rw [hx]
   split at he
   ·rename_i hs
    exact ⟨⟨Array.eq_empty_of_size_eq_zero hs.1,Array.eq_empty_of_size_eq_zero hs.2⟩,v,h',HC.yi _ _ _ _ _ he,hk⟩
   ·cases he
  ·cases he
end
def s8 (P:Program) (call:hG):List fC->(Nat->Value)->ae->Option ((Nat->Value)×ae)
 | [],f,h=>some (f,h)
 | o::os,f,h=>match nQ P call o.op f h with | some (v,h')=>s8 P call os (ck f o.dst v) h' | none=>none
def HB (P:Program) (call:hG) (g:Option (Nat×Bool)) (l:List fC) (f:Nat->Value) (h:ae):Option ((Nat->Value)×ae):=
 match g with
 | none=>s8 P call l f h
 | some (s,b)=>match f s with
  | .bool c=>if (c==b)=true then s8 P call l f h else some (uv l f,h)
  | .complex _ _ _=>none
  | _=>some (uv l f,h)
def wZ (pre:Nat) (lo:kr) (f:Nat->Value) (v:Value):List (Nat×ae)->Bool
 | []=>true
 | (e,H)::r=>if pre.testBit e=true then wZ pre lo f v r else (match dJ lo (ev f) H with | some u=>Cn u v | none=>false)&&wZ pre lo f v r
def qP (pre:Nat) (H:ae):cX->Bool
 | []=>true
 | (j,lo,f,v)::r=>if pre.testBit j=true then qP pre H r else (match dJ lo (ev f) H with | some u=>Cn u v | none=>false)&&qP pre H r
theorem Ja {pre:Nat} {lo:kr} {f:Nat->Value} {v:Value}:∀{l:List (Nat×ae)},wZ pre lo f v l=true->pA pre lo f v l
 | [],_=>trivial
 | (e,H)::r,h=>by
  simp only [wZ] at h
  simp only [pA]
  split at h
  ·rename_i hb;rw [if_pos hb];exact Ja h
  ·rename_i hb
   rw [if_neg hb]
   simp only [and_eq_true] at h
   refine ⟨?_,Ja h.2⟩
   have h1:=h.1
   split at h1
   ·rename_i u hu;rw [hu,X3 h1]
   ·cases h1
theorem qQ {pre:Nat} {H:ae}:∀{l:cX},qP pre H l=true->ik pre H l
 | [],_=>trivial
 | (j,lo,f,v)::r,h=>by
  simp only [qP] at h
  simp only [ik]
  split at h
  ·rename_i hb;rw [if_pos hb];exact qQ h
  ·rename_i hb
   rw [if_neg hb]
   simp only [and_eq_true] at h
   refine ⟨?_,qQ h.2⟩
   have h1:=h.1
   split at h1
   ·rename_i u hu;rw [hu,X3 h1]
   ·cases h1
abbrev Lx:=Option (List (Nat×ae)×cX×(Nat->Value)×ae)
def oB (P:Program) (call:hG):List gD->Nat->List (Nat×ae)->cX->(Nat->Value)->ae->Lx
 | [],_,aE,aB,f,h=>some (aE,aB,f,h)
 | o::os,j,aE,aB,f,h=>
  match nQ P call o.op f h with
  | some (v,h')=>
   match o.op with
   | .p _=>oB P call os (j+1) aE aB (ck f o.dst v) h'
   | .l lo=>if wZ o.pre lo f v aE=true then oB P call os (j+1) aE (aB++[(j,lo,f,v)]) (ck f o.dst v) h' else none
   | .e (.fl _)=>
    match cF h' v with
    | some u=>if qP o.pre h' aB=true then oB P call os (j+1) (aE++[(j,h)]) (aB++[(j,.obj (.const v),f,u)]) (ck f o.dst v) h' else none
    | none=>none
   | _=>if qP o.pre h' aB=true then oB P call os (j+1) (aE++[(j,h)]) aB (ck f o.dst v) h' else none
  | none=>none
def sZ:List gD->Nat->List (Nat×ae)->cX->(Nat->Value)->ae->Lx
 | [],_,aE,aB,f,h=>some (aE,aB,f,h)
 | o::os,j,aE,aB,f,h=>
  match o.op.cj with
  | false=>sZ os (j+1) aE aB (ck f o.dst undef) h
  | true=>if qP o.pre h aB=true then sZ os (j+1) (aE++[(j,h)]) aB (ck f o.dst undef) h else none
def qS (P:Program) (call:hG):List (Option (Nat×Bool)×List gD)->Nat->List (Nat×ae)->cX->(Nat->Value)->ae->Option ((Nat->Value)×ae)
 | [],_,_,_,f,h=>some (f,h)
 | (none,l)::gs,j,aE,aB,f,h=>
  match oB P call l j aE aB f h with
  | some (aE,aB,f,h)=>qS P call gs (j+l.length) aE aB f h
  | none=>none
 | (some (s,b),l)::gs,j,aE,aB,f,h=>
  match f s with
  | .bool c=>
   match (if (c==b)=true then oB P call l j aE aB f h else sZ l j aE aB f h) with
   | some (aE,aB,f,h)=>qS P call gs (j+l.length) aE aB f h
   | none=>none
  | _=>none
section
variable {P : Program} {call : hG} (HC : lY P call)
include HC in
theorem FM:∀{l:List fC} {f f':Nat->Value} {h h':ae} {K:(Nat->Value)->ae->Prop},s8 P call l f h=some (f',h')->K f' h'->pI P l K f h
 | [],f,f',h,h',K,he,hk=>by simp [s8] at he;obtain ⟨rfl,rfl⟩:=he;exact hk
 | o::os,f,f',h,h',K,he,hk=>by
  simp only [s8] at he
  split at he
  ·rename_i v h1 ho
   exact wQ HC ho (FM he hk)
  ·cases he
include HC in
theorem alh {g:Option (Nat×Bool)} {l:List fC} {f f':Nat->Value} {h h':ae} {K:(Nat->Value)->ae->Prop} (he:HB P call g l f h=some (f',h')) (hk:K f' h'):mU P g l K f h:=by
 cases g with
 | none=>exact FM HC he hk
 | some sb=>
  obtain ⟨s,b⟩:=sb
  simp only [HB] at he
  simp only [mU,gO]
  split at he
  ·rename_i c hc
   rw [hc]
   simp only
   split at he
   ·rename_i hb;rw [if_pos hb];exact FM HC he hk
   ·rename_i hb;rw [if_neg hb];simp at he;obtain ⟨rfl,rfl⟩:=he;exact hk
  ·cases he
  ·rename_i h1 h2
   simp at he
   obtain ⟨rfl,rfl⟩:=he
   split
   ·rename_i c hc;exact absurd hc (h1 c)
   ·rename_i a b c hc;exact absurd hc (h2 a b c)
   ·exact hk
include HC in
theorem pG:∀{l:List gD} {j:Nat} {aE kB:List (Nat×ae)} {aB ke:cX} {f f':Nat->Value} {h h':ae} {K:List (Nat×ae)->cX->(Nat->Value)->ae->Prop},
  oB P call l j aE aB f h=some (kB,ke,f',h')->K kB ke f' h'->j1 P l j aE aB K f h
 | [],j,aE,kB,aB,ke,f,f',h,h',K,he,hk=>by simp [oB] at he;obtain ⟨rfl,rfl,rfl,rfl⟩:=he;exact hk
 | o::os,j,aE,kB,aB,ke,f,f',h,h',K,he,hk=>by
  simp only [oB] at he
  simp only [j1]
  split at he
  ·rename_i v h1 ho
   cases bX:o.op with
   | p po=>
    rw [bX] at ho he
    simp only at he
    have:=wQ (K:=λv h'=>j1 P os (j+1) aE aB K (ck f o.dst v) h') HC ho (pG he hk)
    simp only [hO]
    simp only [bY] at this
    simp only [nQ] at ho
    split at ho
    ·rename_i u hu
     simp at ho
     obtain ⟨rfl,rfl⟩:=ho
     exact this
    ·cases ho
   | l lo=>
    rw [bX] at ho he
    simp only at he
    split at he
    ·rename_i hp
     simp only [nQ] at ho
     split at ho
     ·rename_i u hu
      simp at ho
      obtain ⟨rfl,rfl⟩:=ho
      simp only [hO,dK,hu]
      exact ⟨Ja hp,pG he hk⟩
     ·cases ho
    ·cases he
   | e eo=>
    cases eo with
    | fl a=>
     rw [bX] at ho he
     simp only at he
     split at he
     ·rename_i u hu
      split at he
      ·rename_i hp
       simp only [nQ] at ho
       simp only [hO,ho,jc,hu,dK]
       exact ⟨qQ hp,pG he hk⟩
      ·cases he
     ·cases he
    | _=>
    rw [bX] at ho he
    simp only at he
    split at he
    ·rename_i hp
     exact wQ (io:=.e _) (K:=λv h'=>ik o.pre h' aB/\j1 P os (j+1) (aE++[(j,h)]) aB K (ck f o.dst v) h') HC ho ⟨qQ hp,pG he hk⟩
    ·cases he
   | call g args=>
    rw [bX] at ho he
    simp only at he
    split at he
    ·rename_i hp
     exact wQ (io:=.call g args) (K:=λv h'=>ik o.pre h' aB/\j1 P os (j+1) (aE++[(j,h)]) aB K (ck f o.dst v) h') HC ho ⟨qQ hp,pG he hk⟩
    ·cases he
   | hK x args=>
    rw [bX] at ho he
    simp only at he
    split at he
    ·rename_i hp
     exact wQ (io:=.hK x args) (K:=λv h'=>ik o.pre h' aB/\j1 P os (j+1) (aE++[(j,h)]) aB K (ck f o.dst v) h') HC ho ⟨qQ hp,pG he hk⟩
    ·cases he
  ·cases he
theorem FI:∀{l:List gD} {j:Nat} {aE kB:List (Nat×ae)} {aB ke:cX} {f f':Nat->Value} {h h':ae} {K:List (Nat×ae)->cX->(Nat->Value)->ae->Prop},
  sZ l j aE aB f h=some (kB,ke,f',h')->K kB ke f' h'->oC l j aE aB K f h
 | [],j,aE,kB,aB,ke,f,f',h,h',K,he,hk=>by simp [sZ] at he;obtain ⟨rfl,rfl,rfl,rfl⟩:=he;exact hk
 | o::os,j,aE,kB,aB,ke,f,f',h,h',K,he,hk=>by
  simp only [sZ] at he
  simp only [oC,pD]
  cases ho:o.op.cj with
  | false=>rw [ho] at he;exact FI he hk
  | true=>
   rw [ho] at he
   simp only at he
   split at he
   ·rename_i hp;exact ⟨qQ hp,FI he hk⟩
   ·cases he
include HC in
theorem Aq:∀{gs:List (Option (Nat×Bool)×List gD)} {j:Nat} {aE:List (Nat×ae)} {aB:cX} {f f':Nat->Value} {h h':ae} {K:(Nat->Value)->ae->Prop},
  qS P call gs j aE aB f h=some (f',h')->K f' h'->jH P gs j aE aB K f h
 | [],j,aE,aB,f,f',h,h',K,he,hk=>by simp [qS] at he;obtain ⟨rfl,rfl⟩:=he;exact hk
 | (none,l)::gs,j,aE,aB,f,f',h,h',K,he,hk=>by
  simp only [qS] at he
  simp only [jH]
  split at he
  ·rename_i hs ls f1 h1 hr
   exact pG HC hr (Aq he hk)
  ·cases he
 | (some (s,b),l)::gs,j,aE,aB,f,f',h,h',K,he,hk=>by
  simp only [qS] at he
  simp only [jH,gO]
  split at he
  ·rename_i c hc
   rw [hc]
   simp only
   split at he
   ·rename_i hs ls f1 h1 hr
    split at hr
    ·rename_i hb;rw [if_pos hb];exact pG HC hr (Aq he hk)
    ·rename_i hb;rw [if_neg hb];exact FI hr (Aq he hk)
   ·cases he
  ·cases he
end
def rP (body:(Nat->Value)->ae->yk) (ls:List Nat):Nat->List Value->ae->yk
 | 0,_,_=>none
 | n+1,xs,h=>match body (gI ls xs) h with
  | some (.normal,f',h')=>rP body ls n (ls.map f') h'
  | r=>r
def GY (h:ae) (i:Nat):Bool:=match h[i]? with | some (.loop _ _ _)=>true | _=>false
def A4 (h:ae) (i:Nat):Bool:=match h[i]? with | some .dead=>true | _=>false
noncomputable def iu (P:Program) (call:hG) (n:Nat) (c:dc):(Nat->Value)->ae->yk:=
 dc.rec (motive:=λ_=>(Nat->Value)->ae->yk)
  (λf h=>some (.normal,f,h))
  (λl f h=>match qS P call l 0 [] [] f h with | some (f',h')=>some (.normal,f',h') | none=>none)
  (λg l f h=>match HB P call g l f h with | some (f',h')=>some (.normal,f',h') | none=>none)
  (λ_ _ ea eb f h=>match ea f h with | some (.normal,f',h')=>eb f' h' | r=>r)
  (λls _ ec f h=>ec (gI ls (ls.map f)) h)
  (λc _ _ ea eb f h=>match ev f c with | .bool true=>ea f h | .bool false=>eb f h | _=>none)
  (λid _ ec f h=>match ec f h with | some (.exit i,f',h')=>if i=id then some (.normal,f',h') else some (.exit i,f',h') | r=>r)
  (λks ls _ ec f h=>match ks with | []=>rP ec ls n (ls.map f) h | _=>none)
  (λid f h=>some (.exit id,f,h))
  (λf h=>some (.ret,f,h))
  (λg ls c f h=>match ev f g with
   | .func (.func F) first cap=>
    if nu P F=true then
     match call (.func F) (first.toList++[.func (.yield h.length) #[] #[]]++cap.toList) (h++[.loop c ls (ls.map f)]) with
     | some (_,h')=>if GY h' h.length=true then some (.normal,f,h'.set h.length .dead) else none
     | none=>none
    else none
   | _=>none) c
theorem akp {p:Nat->Prop}:∀n,p n->∃m,p m/\∀k,p k->m<=k:=by
 intro n
 induction n using Nat.strongRecOn with
 | _ n ih=>
  intro hn
  by_cases h:∃m,m<n/\p m
  ·obtain ⟨m,h1,h2⟩:=h;exact ih m h1 h2
  ·exact ⟨n,hn,λk hk=>Nat.le_of_not_lt λar=>h ⟨k,ar,hk⟩⟩
theorem ai9 {h:ae} {i:Nat} (hl:GY h i=true):∃c ls vs,h[i]?=some (.loop c ls vs):=by
 unfold GY at hl
 split at hl
 ·rename_i c ls vs hh;exact ⟨c,ls,vs,hh⟩
 ·cases hl
theorem R6 {h:ae} {i:Nat} (hl:A4 h i=true):h[i]?=some .dead:=by
 unfold A4 at hl
 split at hl
 ·assumption
 ·cases hl
theorem Fi {P:Program} {call:hG} (HC:lY P call) {n:Nat} {c:dc}:∀{f f':Nat->Value} {h h':ae} {e:Exit} {K:aj},iu P call n c f h=some (e,f',h')->K e f' h'->fx P c K f h:=by
 induction c with
 | skip=>intro f f' h h' e K he hk;simp [iu] at he;obtain ⟨rfl,rfl,rfl⟩:=he;exact hk
 | Ad l=>
  intro f f' h h' e K he hk
  simp only [iu] at he
  split at he
  ·rename_i f1 h1 hg
   simp at he
   obtain ⟨rfl,rfl,rfl⟩:=he
   exact Aq HC hg hk
  ·cases he
 | ops g l=>
  intro f f' h h' e K he hk
  simp only [iu] at he
  split at he
  ·rename_i f1 h1 hg
   simp at he
   obtain ⟨rfl,rfl,rfl⟩:=he
   exact alh HC hg hk
  ·cases he
 | seq a b lO mN=>
  intro f f' h h' e K he hk
  have dD:(match iu P call n a f h with | some (.normal,f',h')=>iu P call n b f' h' | r=>r)=some (e,f',h'):=he
  show fx P a (aH (fx P b K) K) f h
  split at dD
  ·rename_i f1 h1 h2
   exact lO h2 (mN dD hk)
  ·rename_i h1
   refine lO dD ?_
   cases e <;> first | exact hk | exact absurd dD (h1 _ _)
 | cut ls c ih=>intro f f' h h' e K he hk;exact ih (K:=K) he hk
 | cond c a b lO mN=>
  intro f f' h h' e K he hk
  have dD:(match ev f c with | .bool true=>iu P call n a f h | .bool false=>iu P call n b f h | _=>none)=some (e,f',h'):=he
  rw [Sb]
  split at dD
  ·rename_i hc;rw [hc];exact lO dD hk
  ·rename_i hc;rw [hc];exact mN dD hk
  ·cases dD
 | block id c ih=>
  intro f f' h h' e K he hk
  have dD:(match iu P call n c f h with | some (.exit i,f',h')=>if i=id then some (.normal,f',h') else some (.exit i,f',h') | r=>r)=some (e,f',h'):=he
  show fx P c (bk id K) f h
  split at dD
  ·rename_i i f1 h1 h2
   refine ih h2 ?_
   simp only [bk]
   split at dD
   ·rename_i fL;simp at dD;obtain ⟨rfl,rfl,rfl⟩:=dD;rw [if_pos fL];exact hk
   ·rename_i fL;simp at dD;obtain ⟨rfl,rfl,rfl⟩:=dD;rw [if_neg fL];exact hk
  ·rename_i h1
   refine ih dD ?_
   cases e with
   | exit i=>exact absurd dD (h1 _ _ _)
   | _=>exact hk
 | loop ks ls c ih=>
  intro f f' h h' e K he hk
  cases ks with
  | cons k ks=>cases he
  | nil=>
   have dD:rP (iu P call n c) ls n (ls.map f) h=some (e,f',h'):=he
   show rQ (ls.map f) h λL xs hx=>fx P c (aH (λf' aJ=>([]:List Nat).map f'=[].map f/\L (ls.map f') aJ) K) (gI ([]++ls) (([]:List Nat).map f++xs)) hx
   let J:List Value->ae->Prop:=λys hy=>∃m,rP (iu P call n c) ls m ys hy=some (e,f',h')
   have least:∀ys hy,J ys hy->∃m,rP (iu P call n c) ls m ys hy=some (e,f',h')/\∀k,rP (iu P call n c) ls k ys hy=some (e,f',h')->m<=k:=λys hy ⟨m,hm⟩=>akp m hm
   classical
   let μ:List Value->ae->Nat:=λys hy=>if hJ:J ys hy then Classical.choose (least ys hy hJ) else 0
   refine ⟨J,μ,⟨n,dD⟩,?_⟩
   intro xs hx hJ
   have vY:=Classical.choose_spec (least xs hx hJ)
   have hμ:μ xs hx=Classical.choose (least xs hx hJ):=dif_pos hJ
   rw [<-hμ] at vY
   obtain ⟨h1,h2⟩:=vY
   generalize μ xs hx=m at h1 h2
   cases m with
   | zero=>cases h1
   | succ m=>
    simp only [rP] at h1
    simp only [List.map_nil,nil_append]
    split at h1
    ·rename_i f1 g1 hb
     refine ih hb ?_
     refine ⟨trivial,⟨m,h1⟩,?_⟩
     have tc:J (ls.map f1) g1:=⟨m,h1⟩
     have eM:=Classical.choose_spec (least _ _ tc)
     have aiG:μ (ls.map f1) g1=Classical.choose (least _ _ tc):=dif_pos tc
     rw [aiG]
     exact Nat.lt_succ_of_le (eM.2 m h1)
    ·rename_i hn
     refine ih h1 ?_
     cases e with
     | normal=>exact absurd h1 (hn _ _)
     | _=>exact hk
 | exit id=>intro f f' h h' e K he hk;simp [iu] at he;obtain ⟨rfl,rfl,rfl⟩:=he;exact hk
 | ret=>intro f f' h h' e K he hk;simp [iu] at he;obtain ⟨rfl,rfl,rfl⟩:=he;exact hk
 | range g ls c=>
  intro f f' h h' e K he hk
  simp only [iu] at he
  show nT P (ev f g) ls (ls.map f) c h (K .normal f)
  unfold nT
  split at he
  ·rename_i F first cap hg
   rw [hg]
   split at he
   ·rename_i iY
    split at he
    ·rename_i v h1 hc
     split at he
     ·rename_i hl
      simp at he
      obtain ⟨rfl,rfl,rfl⟩:=he
      exact ⟨iY,v,h1,HC.fn _ _ _ _ _ hc,ai9 hl,hk⟩
     ·cases he
    ·cases he
   ·cases he
  ·cases he
theorem B3:∀{rs:List gL} {f:Nat->Value} {h:ae} {vs:List Value} {k:List Value->Prop},ka rs f h=some vs->k vs->pa rs f h k
 | [],f,h,vs,k,he,hk=>by simp [ka] at he;subst he;exact hk
 | .tmp t::rs,f,h,vs,k,he,hk=>by
  simp only [ka,pX] at he
  split at he
  ·rename_i v fU h1 h2
   simp only [Option.some.injEq] at h1 he
   subst h1
   subst he
   exact B3 (rs:=rs) h2 hk
  ·cases he
 | .cell agg n a::rs,f,h,vs,k,he,hk=>by
  simp only [ka,pX] at he
  split at he
  ·rename_i v fU h1 h2
   simp at he
   subst he
   simp only [pa,dK,h1]
   exact B3 h2 hk
  ·cases he
end
section
noncomputable def Ak (P:Program) (H:FuncId->Hints) (lf:Nat) (call:hG):hG:=
 λt args h=>
  match t with
  | .func F=>
   match bJ P F (H F) with
   | some (N,ic,rs)=>
    if args.length<=N then
     match iu P (call) lf ic (bG args) h with
     | some (.normal,f,h')=>match ka rs f h' with | some vs=>some (pack vs,h') | none=>none
     | some (.ret,f,h')=>match ka rs f h' with | some vs=>some (pack vs,h') | none=>none
     | _=>none
    else none
   | none=>none
  | .yield i=>
   match h[i]? with
   | some (.loop c ls vs)=>
    match dB P c.N c.gE [],dB P c.N c.body [] with
    | some (ia,_),some (ib,_)=>
     if args.length=c.ps.size/\c.ps.all (·<c.N)=true/\eU c.gE=true/\eU c.body=true then
      match iu P (call) lf ia (uc c.ps.toList args (gI ls vs)) (h.set i .dead) with
      | some (.normal,f1,h1)=>
       if A4 h1 i=true then
        match iu P (call) lf ib f1 h1 with
        | some (.normal,_,h2)=>if A4 h2 i=true then some (.bool true,h2.set i (.loop c ls vs)) else none
        | _=>none
       else none
      | _=>none
     else none
    | _,_=>none
   | _=>none
  | _=>none
theorem afX {P:Program} {H:FuncId->Hints} {lf:Nat} {call:hG} (HC:lY P call):lY P (Ak P H lf call):=by
 constructor
 ·intro F args h v h' he
  simp only [Ak] at he
  split at he
  ·rename_i N ic rs hc
   split at he
   ·rename_i ha
    have key:∀{e f h1 vs},(e=Exit.normal∨e=Exit.ret)->iu P (call) lf ic (bG args) h=some (e,f,h1)->ka rs f h1=some vs->px P F args h (pack vs) h1:=by
     intro e f h1 vs F1 vJ hr
     obtain ⟨u,g,q1,rfl,rfl⟩:=RL hc ha (K:=λu g=>u=pack vs/\g=h1) (Fi HC vJ (by
      rcases F1 with rfl | rfl
      ·exact B3 hr ⟨rfl,rfl⟩
      ·exact B3 hr ⟨rfl,rfl⟩))
     exact q1
    split at he
    ·rename_i f h1 vJ
     split at he
     ·rename_i vs hr
      simp at he
      obtain ⟨rfl,rfl⟩:=he
      exact key (.inl rfl) vJ hr
     ·cases he
    ·rename_i f h1 vJ
     split at he
     ·rename_i vs hr
      simp at he
      obtain ⟨rfl,rfl⟩:=he
      exact key (.inr rfl) vJ hr
     ·cases he
    ·cases he
   ·cases he
  ·cases he
 ·intro i args h v h' he
  simp only [Ak] at he
  split at he
  ·rename_i c ls vs hi
   split at he
   ·rename_i ia _ ib _ ha hb
    split at he
    ·rename_i FY
     obtain ⟨c1,c2,c3,c4⟩:=FY
     split at he
     ·rename_i f1 h1 e1
      split at he
      ·rename_i d1
       split at he
       ·rename_i f2 h2 e2
        split at he
        ·rename_i d2
         simp at he
         obtain ⟨rfl,rfl⟩:=he
         obtain ⟨u,g,q1,rfl,rfl⟩:=arp (K:=λu g=>u=.bool true/\g=h2.set i (.loop c ls vs)) hi c1 c2 ha hb c3 c4
          (Fi HC e1 ⟨rfl,R6 d1,Fi HC e2 ⟨rfl,R6 d2,rfl,rfl⟩⟩)
         exact q1
        ·cases he
       ·cases he
      ·cases he
     ·cases he
    ·cases he
   ·cases he
  ·cases he
end
section
def se (f:Nat->Option Nat) (v:Value):Option Value:=
 match v with
 | .pointer (some ⟨i,o,none⟩)=>match f i with | some j=>some (.pointer (some ⟨j,o,none⟩)) | none=>none
 | .slice (some ⟨i,o,some e⟩) n c=>match f i with | some j=>some (.slice (some ⟨j,o,some e⟩) n c) | none=>none
 | v=>match dF v with | true=>some v | false=>none
def oZ (f:Nat->Option Nat):List Value->Option (List Value)
 | []=>some []
 | v::vs=>match se f v with
  | some u=>match oZ f vs with | some us=>some (u::us) | none=>none
  | none=>none
def BW (f:Nat->Option Nat) (v:Value):Option Value:=
 match v with
 | .agg xs=>match oZ f xs.toList with | some ys=>some (.agg ys.toArray) | none=>none
 | v=>se f v
def r9 (f:Nat->Option Nat):List Value->Option (List Value)
 | []=>some []
 | v::vs=>match BW f v with
  | some u=>match r9 f vs with | some us=>some (u::us) | none=>none
  | none=>none
def B0 (f:Nat->Option Nat) (v:Value):Option Value:=
 match v with
 | .tuple xs=>match r9 f xs.toList with | some ys=>some (.tuple ys.toArray) | none=>none
 | v=>BW f v
def o9 (f:Nat->Option Nat) (o:ax):Option ax:=
 match o with
 | .arr e xs=>match oZ f xs with | some ys=>some (.arr e ys) | none=>none
 | .ro e xs=>match oZ f xs with | some ys=>some (.ro e ys) | none=>none
 | _=>none
section
variable {f : Nat -> Option Nat} {kJ jy : aD} (hf : ∀ i k, f i = some k -> kJ i = jy k)
include hf
theorem BX {v u v':Value} (h:se f v=some u):au kJ v v'↔au jy u v':=by
 unfold se at h
 split at h
 ·split at h
  ·rename_i i o j hj
   injection h with h;subst h
   have e:=hf _ _ hj
   constructor
   ·intro q;cases q with | ptr hr=>exact .ptr (by rw [<-e];exact hr)
   ·intro q;cases q with | ptr hr=>exact .ptr (by rw [e];exact hr)
  ·cases h
 ·split at h
  ·rename_i i o el n c j hj
   injection h with h;subst h
   have e:=hf _ _ hj
   constructor
   ·intro q;cases q with | slice hr a b c d=>exact .slice (by rw [<-e];exact hr) a b c d
   ·intro q;cases q with | slice hr a b c d=>exact .slice (by rw [e];exact hr) a b c d
  ·cases h
 ·split at h
  ·rename_i hs
   injection h with h;subst h
   exact ⟨λq=>dF.rel hs q,λq=>dF.rel hs q⟩
  ·cases h
omit hf in
theorem JG {v u:Value} (h:se f v=some u):ep v=ep u:=by
 unfold se at h
 split at h
 ·split at h
  ·injection h with h;subst h;rfl
  ·cases h
 ·split at h
  ·injection h with h;subst h;rfl
  ·cases h
 ·split at h
  ·injection h with h;subst h;rfl
  ·cases h
omit hf in
theorem BZ:∀{xs ys:List Value},oZ f xs=some ys->xs.length=ys.length/\∀(k:Nat) (x y:Value),xs[k]?=some x->ys[k]?=some y->se f x=some y
 | [],ys,h=>by
  simp only [oZ,Option.some.injEq] at h
  subst h
  exact ⟨rfl,λk x y h _=>by simp at h⟩
 | x::xs,ys,h=>by
  simp only [oZ] at h
  split at h
  ·rename_i u hu
   split at h
   ·rename_i us wa
    injection h with h;subst h
    obtain ⟨h1,h2⟩:=BZ wa
    refine ⟨by simp [h1],λk a b ha hb=>?_⟩
    cases k with
    | zero=>simp at ha hb;rw [<-ha,<-hb];exact hu
    | succ k=>exact h2 k a b (by simpa using ha) (by simpa using hb)
   ·cases h
  ·cases h
theorem BY {xs ys:List Value} (h:oZ f xs=some ys) {c:Array Value} {sh:Nat}:eu kJ c sh xs↔eu jy c sh ys:=by
 obtain ⟨hl,hg⟩:=BZ h
 constructor
 ·intro q j y hy
  have hj:j<xs.length:=by rw [hl];exact (ba hy).1
  have hx:xs[j]?=some xs[j]:=List.getElem?_eq_getElem hj
  obtain ⟨q1,z,q2,q3⟩:=q j _ hx
  have r:=hg j _ _ hx hy
  exact ⟨by rw [<-JG r];exact q1,z,q2,(BX hf r).1 q3⟩
 ·intro q j x hx
  have hj:j<ys.length:=by rw [<-hl];exact (ba hx).1
  have hy:ys[j]?=some ys[j]:=List.getElem?_eq_getElem hj
  obtain ⟨q1,z,q2,q3⟩:=q j _ hy
  have r:=hg j _ _ hx hy
  exact ⟨by rw [JG r];exact q1,z,q2,(BX hf r).2 q3⟩
theorem JH {o u:ax} {w:World} {r:RI} (h:o9 f o=some u):iN kJ w r o↔iN jy w r u:=by
 unfold o9 at h
 split at h
 ·split at h
  ·rename_i nM
   injection h with h;subst h
   constructor
   ·rintro ⟨a,b,c,d,e,g⟩;exact ⟨a,b,c,d,e,(BY hf nM).1 g⟩
   ·rintro ⟨a,b,c,d,e,g⟩;exact ⟨a,b,c,d,e,(BY hf nM).2 g⟩
  ·cases h
 ·split at h
  ·rename_i nM
   injection h with h;subst h
   constructor
   ·rintro ⟨a,c,t,fr,d,e,g⟩;exact ⟨a,c,t,fr,d,e,(BY hf nM).1 g⟩
   ·rintro ⟨a,c,t,fr,d,e,g⟩;exact ⟨a,c,t,fr,d,e,(BY hf nM).2 g⟩
  ·cases h
 ·cases h
theorem aod {xs ys zs:List Value} (h:oZ f xs=some ys) (q:bg kJ xs zs):bg jy ys zs:=by
 obtain ⟨hl,hg⟩:=BZ h
 refine bg.Bp (by rw [<-hl];exact q.length) λk y z hy hz=>?_
 have hk:k<xs.length:=by rw [hl];exact (ba hy).1
 have hx:xs[k]?=some xs[k]:=List.getElem?_eq_getElem hk
 obtain ⟨z',h1,h2⟩:=q.get hx
 rw [hz] at h1;cases h1
 exact (BX hf (hg k _ _ hx hy)).1 h2
theorem Xe {v u v':Value} (h:BW f v=some u) (q:au kJ v v'):au jy u v':=by
 unfold BW at h
 split at h
 ·rename_i xs
  split at h
  ·rename_i ys rE
   injection h with h;subst h
   cases q with
   | agg hs h1 hr=>
    have vs:=aod hf rE (bg.m6 hs hr)
    obtain ⟨hl,hg⟩:=BZ rE
    refine .agg (by have:=vs.length;simpa using this) (λy hy=>?_) (by have:=vs.ofList;simpa using this)
    have mJ:y∈ys:=by simpa using hy
    obtain ⟨k,hk,e⟩:=List.mem_iff_getElem.1 mJ
    have hx:xs.toList[k]?=some (xs.toList[k]'(by omega)):=List.getElem?_eq_getElem (by omega)
    have r:=hg k _ y hx (by rw [List.getElem?_eq_getElem hk,e])
    rw [<-JG r]
    exact h1 _ (getElem_mem _)
  ·cases h
 ·exact (BX hf h).1 q
theorem JF:∀{xs ys zs:List Value},r9 f xs=some ys->bg kJ xs zs->bg jy ys zs
 | [],ys,zs,h,q=>by
  simp only [r9,Option.some.injEq] at h
  subst h
  cases q;exact .nil
 | x::xs,ys,zs,h,q=>by
  simp only [r9] at h
  split at h
  ·rename_i u hu
   split at h
   ·rename_i us wa
    injection h with h;subst h
    cases q with
    | cons a b=>exact .cons (Xe hf hu a) (JF wa b)
   ·cases h
  ·cases h
theorem aof {v u v':Value} (h:B0 f v=some u) (q:au kJ v v'):au jy u v':=by
 unfold B0 at h
 split at h
 ·rename_i xs
  split at h
  ·rename_i ys rE
   injection h with h;subst h
   cases q with
   | tuple hs hr=>
    have vs:=JF hf rE (bg.m6 hs hr)
    exact .tuple (by have:=vs.length;simpa using this) (by have:=vs.ofList;simpa using this)
  ·cases h
 ·exact Xe hf h q
end
def kE (i:Nat):List Nat->Option Nat
 | []=>none
 | a::l=>match Nat.beq a i with | true=>some 0 | false=>match kE i l with | some k=>some (k+1) | none=>none
theorem BR {i:Nat}:∀{l:List Nat} {k:Nat},kE i l=some k->l[k]?=some i
 | [],k,h=>by cases h
 | a::l,k,h=>by
  simp only [kE] at h
  split at h
  ·rename_i hb
   injection h with h;subst h
   simp [eq_of_beq_eq_true hb]
  ·split at h
   ·rename_i k' bO
    injection h with h;subst h
    simpa using BR bO
   ·cases h
def sQ (ids is:List Nat) (b:Nat) (k:Nat):Option Nat:=
 match Nat.blt k ids.length with
 | true=>ids[k]?
 | false=>match kE k is with | some t=>some (b+t) | none=>none
theorem aoe {f:Nat->Option Nat} {o u:ax} (h:o9 f o=some u):(∃e xs ys,o=.arr e xs/\u=.arr e ys)∨∃e xs ys,o=.ro e xs/\u=.ro e ys:=by
 unfold o9 at h
 split at h
 ·split at h
  ·injection h with h;subst h;exact .inl ⟨_,_,_,rfl,rfl⟩
  ·cases h
 ·split at h
  ·injection h with h;subst h;exact .inr ⟨_,_,_,rfl,rfl⟩
  ·cases h
 ·cases h
theorem mS {h h2:ae} {i k:Nat} {o u:ax} {f:Nat->Option Nat} (h1:h[i]?=some o) (h3:h2[k]?=some u) (hr:o9 f o=some u):(bH h i↔bH h2 k)/\cZ h i/\cZ h2 k:=by
 unfold bH cZ
 rw [h1,h3]
 rcases aoe hr with ⟨e,xs,ys,rfl,rfl⟩ | ⟨e,xs,ys,rfl,rfl⟩ <;> simp
theorem SN {l:List Nat} (h:l.Nodup) {a b i:Nat} (ha:l[a]?=some i) (hb:l[b]?=some i):a=b:=by
 obtain ⟨h1,h2⟩:=ba ha
 obtain ⟨h3,h4⟩:=ba hb
 have hp:=List.pairwise_iff_getElem.1 h
 rcases Nat.lt_trichotomy a b with hl | he | hl
 ·exact absurd (h2.trans h4.symm) (hp a b h1 h3 hl)
 ·exact he
 ·exact absurd (h4.trans h2.symm) (hp b a h3 h1 hl)
theorem aiM {P:Program} {F:FuncId} {qA args:List Value} {h0 jj h os:ae} {v0 v:Value} {ids is:List Nat} (hc:px P F qA h0 v0 jj)
  (kW:ids.Nodup) (hlen:h0.length=ids.length) (ha:r9 (kE · ids) args=some qA)
  (ho:∀(k i:Nat),ids[k]?=some i->∃o o0:ax,h[i]?=some o/\h0[k]?=some o0/\o9 (kE · ids) o=some o0)
  (hex:EX h0 jj) (ahn:is.Nodup) (ahm:∀k∈is,h0.length<=k) (hv:B0 (sQ ids is h.length) v0=some v) (_:os.length=is.length)
  (fN:∀(t k:Nat),is[t]?=some k->∃o0 o:ax,jj[k]?=some o0/\os[t]?=some o/\o9 (sQ ids is h.length) o0=some o):px P F args h v (h++os):=by
 intro ρ args' w hva H
 let lX:aD:=λk=>(ids[k]?).bind ρ
 have f1:∀i k,kE i ids=some k->ρ i=lX k:=λi k hk=>by simp [lX,BR hk]
 have RN:∀k i,ids[k]?=some i->i<h.length:=λk i hk=>by
  obtain ⟨o,o0,h1,_⟩:=ho k i hk
  exact (ba h1).1
 have r0:∀k r,lX k=some r->∃i,ids[k]?=some i/\ρ i=some r:=by
  intro k r hr
  cases hi:ids[k]? with
  | none=>simp [lX,hi] at hr
  | some i=>exact ⟨i,rfl,by simpa [lX,hi] using hr⟩
 have H0:aL P lX h0 w:=by
  refine ⟨?_,?_,?_⟩
  ·intro k r hr
   obtain ⟨i,hi,jJ⟩:=r0 k r hr
   obtain ⟨o,o0,h1,h2,h3⟩:=ho k i hi
   obtain ⟨o',cr,jm⟩:=H.obj i r jJ
   rw [h1] at cr;cases cr
   exact ⟨o0,h2,(JH f1 h3).1 jm⟩
  ·intro a b r s lM oO iZ hm hl
   obtain ⟨i,hi,jJ⟩:=r0 a r lM
   obtain ⟨j,hj,hrj⟩:=r0 b s oO
   obtain ⟨o,o0,h1,h2,h3⟩:=ho a i hi
   obtain ⟨p,p0,q1,q2,q3⟩:=ho b j hj
   have e:=H.inj i j r s jJ hrj iZ ((mS h1 h2 h3).1.2 hm) (mS q1 q2 q3).2.1
   subst e
   exact SN kW hi hj
  ·intro k r hr
   obtain ⟨i,_,jJ⟩:=r0 k r hr
   exact H.aT i r jJ
 refine (hc lX args' w (JF f1 ha hva) H0).mono ?_
 rintro e w' ⟨v',nZ,rfl,jL,H',T⟩
 let jy:aD:=λj=>if j<h.length then ρ j else (is[j-h.length]?).bind nZ
 have nS:∀j,j<h.length->jy j=ρ j:=λj hj=>by simp [jy,hj]
 have W8:∀t,jy (h.length+t)=(is[t]?).bind nZ:=λt=>by
  show (if h.length+t<h.length then ρ (h.length+t) else (is[h.length+t-h.length]?).bind nZ)=_
  rw [if_neg (by omega),Nat.add_sub_cancel_left]
 have wO:∀k i,ids[k]?=some i->nZ k=ρ i:=by
  intro k i hi
  have e0:lX k=ρ i:=by simp [lX,hi]
  cases hr:ρ i with
  | some r=>exact T.ext k r (by rw [e0];exact hr)
  | none=>
   cases ry:nZ k with
   | none=>rfl
   | some r=>
    have:=(T.fresh k r ry (by rw [e0];exact hr)).1
    have:k<ids.length:=(ba hi).1
    omega
 have f2:∀k j,sQ ids is h.length k=some j->nZ k=jy j:=by
  intro k j hk
  unfold sQ at hk
  split at hk
  ·rw [wO k j hk,nS j (RN k j hk)]
  ·split at hk
   ·rename_i t ht
    injection hk with hk;subst hk
    rw [W8 t,BR ht];rfl
   ·cases hk
 have f3:∀i k,kE i ids=some k->jy i=nZ k:=λi k hk=>by
  have:=BR hk
  rw [wO k i this,nS i (RN k i this)]
 have Ul:∀j,j<h.length->(h++os)[j]?=h[j]?:=λj hj=>getElem?_append_left hj
 have Hs:∀t,(h++os)[h.length+t]?=os[t]?:=λt=>by rw [List.getElem?_append_right (by omega),Nat.add_sub_cancel_left]
 have hle:ρ.le jy:=λj r hr=>by rw [nS j (H.lt hr)];exact hr
 have wG:∀j,j<h.length->(bH (h++os) j↔bH h j)/\(cZ (h++os) j↔cZ h j):=λj hj=>by unfold bH cZ;rw [Ul j hj];exact ⟨Iff.rfl,Iff.rfl⟩
 -- Ka is new,od je own heap has it
 have rU:∀j r,jy j=some r->¬j<h.length->∃t k:Nat,j=h.length+t/\is[t]?=some k/\nZ k=some r/\h0.length<=k:=by
  intro j r hr hj
  obtain ⟨t,rfl⟩:∃t,j=h.length+t:=⟨j-h.length,by omega⟩
  rw [W8 t] at hr
  cases hk:is[t]? with
  | none=>rw [hk] at hr;cases hr
  | some k=>rw [hk] at hr;exact ⟨t,k,rfl,hk,hr,ahm k (List.mem_of_getElem? hk)⟩
 have ajf:∀k,h0.length<=k->lX k=none:=λk hk=>by
  have:ids[k]?=none:=List.getElem?_eq_none (by omega)
  simp [lX,this]
 have SJ:∀(k:Nat) (r:RI),nZ k=some r->h0.length<=k->w.heap.size<=r.aY∨∃(k' i:Nat) (s:RI),ids[k']?=some i/\ρ i=some s/\s.aY=r.aY/\bH h i:=by
  intro k r hr hk
  rcases (T.fresh k r hr (ajf k hk)).2 with h1 | ⟨j,s,h1,h2,h3⟩
  ·exact .inl h1
  ·obtain ⟨i,hi,jJ⟩:=r0 j s h1
   obtain ⟨o,o0,q1,q2,q3⟩:=ho j i hi
   exact .inr ⟨j,i,s,hi,jJ,h2,(mS q1 q2 q3).1.2 h3⟩
 -- an old alb and a new one arV no block,if one of apD may be written
 have apart:∀(a:Nat) (r:RI) (k:Nat) (s:RI),ρ a=some r->nZ k=some s->h0.length<=k->r.aY=s.aY->cZ h a->(∀k':Nat,ids[k']?≠some a)->False:=by
  intro a r k s lM j8 hk he Q9 hna
  rcases SJ k s j8 hk with h1 | ⟨k',i,s',h1,h2,h3,h4⟩
  ·have:=tW H lM Q9;omega
  ·have:=H.inj i a s' r h2 lM (by omega) h4 Q9
   subst this
   exact hna k' h1
 refine ⟨v',jy,rfl,aof f2 hv jL,⟨?_,?_,?_⟩,?_⟩
 ·intro j r hr
  by_cases hj:j<h.length
  ·rw [nS j hj] at hr
   obtain ⟨o,AM,jm⟩:=H.obj j r hr
   refine ⟨o,by rw [Ul j hj];exact AM,?_⟩
   by_cases gS:∃k:Nat,ids[k]?=some j
   ·obtain ⟨k,hk⟩:=gS
    obtain ⟨o1,o0,h1,h2,h3⟩:=ho k j hk
    rw [AM] at h1;cases h1
    obtain ⟨o',cr,Gr⟩:=H'.obj k r (by rw [wO k j hk];exact hr)
    rw [hex.get h2] at cr;cases cr
    exact (JH f3 h3).2 Gr
   ·by_cases hd:o=.dead
    ·subst hd;trivial
    ·refine jm.mono hle (T.ey _ (tW H hr ⟨o,AM,hd⟩) ?_)
     intro k s hk hb hm
     obtain ⟨i,hi,jJ⟩:=r0 k s hk
     obtain ⟨o1,o0,q1,q2,q3⟩:=ho k i hi
     have:=H.inj i j s r jJ hr hb ((mS q1 q2 q3).1.2 hm) ⟨o,AM,hd⟩
     subst this
     exact gS ⟨k,hi⟩
  ·obtain ⟨t,k,rfl,hk,j8,gG⟩:=rU j r hr hj
   obtain ⟨o0,o,h1,h2,h3⟩:=fN t k hk
   obtain ⟨o',cr,Gr⟩:=H'.obj k r j8
   rw [h1] at cr;cases cr
   exact ⟨o,by rw [Hs t];exact h2,(JH f2 h3).1 Gr⟩
 ·intro a b r s lM oO iZ hm hl
  by_cases tf:a<h.length <;> by_cases pK:b<h.length
  ·rw [nS a tf] at lM
   rw [nS b pK] at oO
   exact H.inj a b r s lM oO iZ ((wG a tf).1.1 hm) ((wG b pK).2.1 hl)
  ·exfalso
   rw [nS a tf] at lM
   obtain ⟨t,k,rfl,hk,j8,gG⟩:=rU b s oO pK
   have Rd:=(wG a tf).1.1 hm
   by_cases gS:∃k':Nat,ids[k']?=some a
   ·obtain ⟨k',bO⟩:=gS
    obtain ⟨o,o0,q1,q2,q3⟩:=ho k' a bO
    have m1:bH jj k':=by
     have:=(mS q1 (hex.get q2) q3).1.1 Rd
     exact this
    obtain ⟨p0,p,u1,u2,u3⟩:=fN t k hk
    have:=H'.inj k' k r s (by rw [wO k' a bO];exact lM) j8 iZ m1 (mS u1 u2 u3).2.1
    have:k'<ids.length:=(ba bO).1
    omega
   ·exact apart a r k s lM j8 gG iZ Rd.live λk' bO=>gS ⟨k',bO⟩
  ·exfalso
   rw [nS b pK] at oO
   obtain ⟨t,k,rfl,hk,j8,gG⟩:=rU a r lM tf
   have pQ:=(wG b pK).2.1 hl
   obtain ⟨p0,p,u1,u2,u3⟩:=fN t k hk
   have m0:bH jj k:=(mS u1 (show (h++os)[h.length+t]?=some p by rw [Hs t];exact u2) u3).1.2 hm
   by_cases gS:∃k':Nat,ids[k']?=some b
   ·obtain ⟨k',bO⟩:=gS
    obtain ⟨o,o0,q1,q2,q3⟩:=ho k' b bO
    have:=H'.inj k k' r s j8 (by rw [wO k' b bO];exact oO) iZ m0 (mS q1 (hex.get q2) q3).2.2
    have:k'<ids.length:=(ba bO).1
    omega
   ·exact apart b s k r oO j8 gG iZ.symm pQ λk' bO=>gS ⟨k',bO⟩
  ·obtain ⟨t,k,rfl,hk,j8,gG⟩:=rU a r lM tf
   obtain ⟨t',k',rfl,bO,aic,arI⟩:=rU b s oO pK
   obtain ⟨p0,p,u1,u2,u3⟩:=fN t k hk
   obtain ⟨p0',p',x1,x2,x3⟩:=fN t' k' bO
   have m0:bH jj k:=(mS u1 (show (h++os)[h.length+t]?=some p by rw [Hs t];exact u2) u3).1.2 hm
   have:=H'.inj k k' r s j8 aic iZ m0 (mS x1 x2 x3).2.1
   subst this
   rw [SN ahn hk bO]
 ·intro j r hr
  by_cases hj:j<h.length
  ·rw [nS j hj] at hr;exact H.aT j r hr
  ·obtain ⟨t,k,rfl,hk,j8,gG⟩:=rU j r hr hj
   exact H'.aT k r j8
 ·exact {
   ext:=hle
   len:=by simp
   fK:=λk r hr=>H.lt hr
   kinds:=λk hk hm=>(wG k hk).1.1 hm
   fresh:=by
    intro j r hr hn
    by_cases hj:j<h.length
    ·rw [nS j hj,hn] at hr;cases hr
    ·obtain ⟨t,k,rfl,hk,j8,gG⟩:=rU j r hr hj
     refine ⟨by omega,?_⟩
     rcases SJ k r j8 gG with h1 | ⟨k',i,s,h1,h2,h3,h4⟩
     ·exact .inl h1
     ·exact .inr ⟨i,s,h2,h3,h4⟩
   eP:=T.eP
   ey:=by
    intro b hb cL
    refine T.ey b hb ?_
    intro k s hk mI hm
    obtain ⟨i,hi,jJ⟩:=r0 k s hk
    obtain ⟨o,o0,q1,q2,q3⟩:=ho k i hi
    exact cL i s jJ mI ((mS q1 q2 q3).1.2 hm)
   os:=T.os
   tape:=T.tape
   output:=T.output }
end
section
section
variable {β : Type}
def mc (n:Nat) (k:Nat->β):β:=match n with | 0=>k 0 | m+1=>k (m+1)
theorem vl (n:Nat) (k:Nat->β):mc n k=k n:=by cases n <;> rfl
def Fq (n:Int) (k:Int->β):β:=match n with | .ofNat m=>mc m λm=>k (.ofNat m) | .negSucc m=>mc m λm=>k (.negSucc m)
theorem af2 (n:Int) (k:Int->β):Fq n k=k n:=by cases n <;> simp [Fq,vl]
def Am (v:Value) (k:Value->β):β:=
 match v with
 | .int kd n=>Fq n λn=>k (.int kd n)
 | .bool b=>match b with | true=>k (.bool true) | false=>k (.bool false)
 | .pointer (some ⟨i,o,none⟩)=>mc i λi=>mc o λo=>k (.pointer (some ⟨i,o,none⟩))
 | .slice (some ⟨i,o,some e⟩) n c=>mc i λi=>mc o λo=>mc n λn=>mc c λc=>k (.slice (some ⟨i,o,some e⟩) n c)
 | v=>k v
theorem Qb (v:Value) (k:Value->β):Am v k=k v:=by
 unfold Am
 split
 ·rw [af2]
 ·rename_i b;cases b <;> rfl
 ·simp only [vl]
 ·simp only [vl]
 ·rfl
def sX (xs:List Value) (k:List Value->β):β:=match xs with | []=>k [] | x::xs=>Am x λx=>sX xs λxs=>k (x::xs)
theorem Fp:∀(xs:List Value) (k:List Value->β),sX xs k=k xs
 | [],_=>rfl
 | x::xs,k=>by simp only [sX,Qb];exact Fp xs _
def Al (v:Value) (k:Value->β):β:=match v with | .agg xs=>sX xs.toList λys=>k (.agg ys.toArray) | v=>Am v k
theorem Qa (v:Value) (k:Value->β):Al v k=k v:=by
 unfold Al
 split
 ·rw [Fp]
 ·exact Qb _ _
def vk (xs:List Value) (k:List Value->β):β:=match xs with | []=>k [] | x::xs=>Al x λx=>vk xs λxs=>k (x::xs)
theorem Fo:∀(xs:List Value) (k:List Value->β),vk xs k=k xs
 | [],_=>rfl
 | x::xs,k=>by simp only [vk,Qa];exact Fo xs _
def Fs (v:Value) (k:Value->β):β:=match v with | .tuple xs=>vk xs.toList λys=>k (.tuple ys.toArray) | v=>Al v k
theorem af3 (v:Value) (k:Value->β):Fs v k=k v:=by
 unfold Fs
 split
 ·rw [Fo]
 ·exact Qa _ _
def qO (h:ae) (k:ae->β):β:=
 match h with
 | []=>k []
 | o::r=>match o with
  | .arr e xs=>sX xs λxs=>qO r λr=>k (.arr e xs::r)
  | .ro e xs=>sX xs λxs=>qO r λr=>k (.ro e xs::r)
  | o=>qO r λr=>k (o::r)
theorem Qc:∀(h:ae) (k:ae->β),qO h k=k h
 | [],_=>rfl
 | o::r,k=>by
  unfold qO
  cases o <;> simp only [Fp] <;> exact Qc r _
def vm (xs:List Nat) (k:List Nat->β):β:=match xs with | []=>k [] | x::xs=>mc x λx=>vm xs λxs=>k (x::xs)
theorem Qd:∀(xs:List Nat) (k:List Nat->β),vm xs k=k xs
 | [],_=>rfl
 | x::xs,k=>by simp only [vm,vl];exact Qd xs _
end
def aiP:Value->List Nat
 | .pointer (some ⟨i,_,none⟩)=>[i]
 | .slice (some ⟨i,_,some _⟩) _ _=>[i]
 | _=>[]
def tP:List Value->List Nat->List Nat
 | [],r=>r
 | x::xs,r=>match aiP x with | i::_=>i::tP xs r | []=>tP xs r
def RP (v:Value) (r:List Nat):List Nat:=match v with | .agg xs=>tP xs.toList r | v=>tP [v] r
def GP:List Value->List Nat->List Nat
 | [],r=>r
 | x::xs,r=>RP x (GP xs r)
def aiQ (v:Value):List Nat:=match v with | .tuple xs=>GP xs.toList [] | v=>RP v []
def reach:Nat->ae->List Nat->List Nat->List Nat
 | 0,_,_,acc=>acc
 | _+1,_,[],acc=>acc
 | n+1,h,i::r,acc=>
  match kE i acc with
  | some _=>reach n h r acc
  | none=>match h[i]? with
   | some (.arr _ xs)=>reach n h (tP xs r) (acc++[i])
   | some (.ro _ xs)=>reach n h (tP xs r) (acc++[i])
   | _=>reach n h r (acc++[i])
def wJ:List Nat->Bool
 | []=>true
 | a::l=>match kE a l with | some _=>false | none=>wJ l
theorem Wo {i:Nat}:∀{l:List Nat},kE i l=none->i∉l
 | [],_=>by simp
 | a::l,h=>by
  simp only [kE] at h
  split at h
  ·cases h
  ·rename_i hb
   split at h
   ·cases h
   ·rename_i hn
    intro hm
    rcases List.mem_cons.1 hm with rfl | hm
    ·simp at hb
    ·exact Wo hn hm
theorem Hw:∀{l:List Nat},wJ l=true->l.Nodup
 | [],_=>.nil
 | a::l,h=>by
  simp only [wJ] at h
  split at h
  ·cases h
  ·rename_i hn
   exact List.nodup_cons.2 ⟨Wo hn,Hw h⟩
def tX (f:Nat->Option Nat) (h:ae):List Nat->Option ae
 | []=>some []
 | i::r=>match h[i]? with
  | some o=>match o9 f o with
   | some u=>match tX f h r with | some us=>some (u::us) | none=>none
   | none=>none
  | none=>none
theorem HG {f:Nat->Option Nat} {h:ae}:∀{l:List Nat} {us:ae},tX f h l=some us->us.length=l.length/\∀(k i:Nat),l[k]?=some i->∃o u:ax,h[i]?=some o/\us[k]?=some u/\o9 f o=some u
 | [],us,e=>by
  simp only [tX,Option.some.injEq] at e
  subst e
  exact ⟨rfl,λk i hk=>by simp at hk⟩
 | i::r,us,e=>by
  simp only [tX] at e
  split at e
  ·rename_i o ho
   split at e
   ·rename_i u hu
    split at e
    ·rename_i us' wa
     injection e with e;subst e
     obtain ⟨h1,h2⟩:=HG wa
     refine ⟨by simp [h1],λk j hk=>?_⟩
     cases k with
     | zero=>
      have:i=j:=by simpa using hk
      subst this
      exact ⟨o,u,ho,rfl,hu⟩
     | succ k=>simpa using h2 k j (by simpa using hk)
    ·cases e
   ·cases e
  ·cases e
def Hz (a b:ax):Bool:=
 match a,b with
 | .arr e xs,.arr e' dv=>Nat.beq e e'&&uz xs dv
 | .ro e xs,.ro e' dv=>Nat.beq e e'&&uz xs dv
 | _,_=>false
theorem ala {a b:ax} (h:Hz a b=true):a=b:=by
 unfold Hz at h
 split at h
 ·rw [and_eq_true] at h
  rw [eq_of_beq_eq_true h.1,Cp h.2]
 ·rw [and_eq_true] at h
  rw [eq_of_beq_eq_true h.1,Cp h.2]
 ·cases h
def B8:ae->ae->Bool
 | [],_=>true
 | a::r,b::s=>Hz a b&&B8 r s
 | _::_,[]=>false
theorem XC:∀{h g:ae},B8 h g=true->EX h g
 | [],g,_=>⟨Nat.zero_le _,λi hi=>by simp at hi⟩
 | a::r,b::s,e=>by
  simp only [B8,and_eq_true] at e
  obtain ⟨h1,h2⟩:=XC e.2
  have:=ala e.1
  subst this
  refine ⟨by simpa using h1,λi hi=>?_⟩
  cases i with
  | zero=>rfl
  | succ i=>simpa using h2 i (by simpa using hi)
 | _::_,[],e=>by cases e
def As (b:Nat):List Nat->Bool
 | []=>true
 | a::l=>Nat.ble b a&&As b l
theorem Qt {b:Nat}:∀{l:List Nat},As b l=true->∀k∈l,b<=k
 | [],_,k,hk=>by simp at hk
 | a::l,h,k,hk=>by
  simp only [As,and_eq_true] at h
  rcases List.mem_cons.1 hk with rfl | hk
  ·exact bT h.1
  ·exact Qt h.2 k hk
def FJ (b:Nat):List Nat->List Nat
 | []=>[]
 | a::l=>match Nat.ble b a with | true=>a::FJ b l | false=>FJ b l
noncomputable def Fz (call:hG):hG:=λt args h=>
 match t with
 | .func F=>
  vm (reach 400 h (GP args []) []) λids=>
  match r9 (kE · ids) args,tX (kE · ids) h ids with
  | some qA,some h0=>
   vk qA λqA=>qO h0 λh0=>
   match call (.func F) qA h0 with
   | some (v0,jj)=>
    match B8 h0 jj&&wJ ids with
    | true=>
     vm (FJ h0.length (reach 400 jj (aiQ v0) [])) λis=>
     mc h.length λb=>
     match B0 (sQ ids is b) v0,tX (sQ ids is b) jj is with
     | some v,some os=>
      match wJ is&&As h0.length is with
      | true=>Fs v λv=>qO os λos=>some (v,h++os)
      | false=>none
     | _,_=>call t args h
    | false=>call t args h
   | none=>none
  | _,_=>call t args h
 | _=>call t args h
theorem agd {P:Program} {call:hG} (HC:lY P call):lY P (Fz call):=by
 constructor
 ·intro F args h v h' he
  simp only [Fz,Qd,Fo,Qc,vl,af3] at he
  split at he
  ·rename_i qA h0 ha ho
   split at he
   ·rename_i v0 jj oG
    split at he
    ·rename_i rB
     rw [and_eq_true] at rB
     split at he
     ·rename_i u os hu fN
      split at he
      ·rename_i my
       rw [and_eq_true] at my
       simp only [Option.some.injEq,Prod.mk.injEq] at he
       obtain ⟨rfl,rfl⟩:=he
       obtain ⟨a1,a2⟩:=HG ho
       obtain ⟨b1,b2⟩:=HG fN
       exact aiM (HC.fn _ _ _ _ _ oG) (Hw rB.2) a1 ha a2 (XC rB.1) (Hw my.1) (Qt my.2) hu b1 b2
      ·cases he
     ·exact HC.fn _ _ _ _ _ he
    ·exact HC.fn _ _ _ _ _ he
   ·cases he
  ·exact HC.fn _ _ _ _ _ he
 ·intro i args h v h' he
  exact HC.yi _ _ _ _ _ he
noncomputable def qN (P:Program) (H:FuncId->Hints) (lf:Nat) (pZ:hG):Nat->hG
 | 0=>λ_ _ _=>none
 | n+1=>λt args h=>
  match pZ t args h with
  | some r=>some r
  | none=>Fz (Ak P H lf (qN P H lf pZ n)) t args h
theorem P9 {P:Program} {H:FuncId->Hints} {lf:Nat} {pZ:hG} (HO:lY P pZ):∀n,lY P (qN P H lf pZ n)
 | 0=>by constructor <;> (intro _ _ _ _ _ h;cases h)
 | n+1=>by
  have HS:=agd (afX (H:=H) (lf:=lf) (P9 (H:=H) (lf:=lf) HO n))
  constructor
  ·intro F args h v h' he
   simp only [qN] at he
   split at he
   ·rename_i r hr;cases he;exact HO.fn _ _ _ _ _ hr
   ·exact HS.fn _ _ _ _ _ he
  ·intro i args h v h' he
   simp only [qN] at he
   split at he
   ·rename_i r hr;cases he;exact HO.yi _ _ _ _ _ hr
   ·exact HS.yi _ _ _ _ _ he
theorem P8 {P:Program} (H:FuncId->Hints) (lf n:Nat) {pZ:hG} (HO:lY P pZ) {F:FuncId} {args:List Value} {v:Value} (h:(qN P H lf pZ n (.func F) args []).map Prod.fst=some v):∃h',px P F args [] v h':=by
 simp only [Option.map_eq_some_iff] at h
 obtain ⟨⟨u,h'⟩,h1,h2⟩:=h
 simp at h2
 subst h2
 exact ⟨h',(P9 HO n).fn _ _ _ _ _ h1⟩
end
end Go.Sim
namespace Go.Proofs.YtncaiogfjjepcaaGreatDoor
open Go.Sim
section
def Aj:FuncId->Hints
 | 36=>[[]]
 | 55=>[[],[],[],[0,1,2,3,8,9],[],[],[],[],[],[],[],[],[],[0,1,2,3,8,9,10],[],[],[],[],[0,1,2,3,8,9,10,11,12],[0,1,2,3,8,9,10,11,12,62],[0,1,2,3,8,9,10,11,12,62,63],[0,1,2,3,8,9,10,11,12,65],[0,1,2,3,8,9,10,11,65,67],[],[],[0,1,2,3,8,9,10,11],[],[],[],[],[],[],[],[],[],[],[],[],[]]
 | 56=>[[],[],[],[]]
 | 76=>[[],[],[0,1,2,6],[],[],[],[],[0,1,2,6,7],[],[],[],[0,1,2,6]]
 | 82=>[[],[0,1,7],[0,1,7,10],[0,1,12],[12,15],[]]
 | 101=>[[],[]]
 | 46=>[[],[],[0],[],[],[],[0,3,4],[],[],[],[3],[]]
 | 47=>[[],[],[0],[],[],[],[0,3,4],[],[],[],[3],[]]
 | 53=>[[],[0,1,9],[0,1,9,11],[],[],[],[0,1,17],[0,1,17,20],[],[],[],[],[],[],[],[]]
 | 13=>[[],[0,1,11],[0,1,11,14],[],[],[0,1,20],[0,20,23],[],[],[],[],[],[0,25,26,27],[],[],[],[0,5,6,25,26,27,34],[0,5,6,25,26,27,34,37],[0,5,6,25,26,27,39],[0,5,6,25,26,27,39,42],[0,5,6,25,26,27,44],[0,25,26,27,44,49],[],[],[],[],[]]
 | 33=>[[],[]]
 | 71=>[[],[],[],[0,2,4],[],[],[],[],[],[],[],[2],[]]
 | 72=>[[],[],[0,1],[],[],[],[],[0],[]]
 | 73=>[[],[],[0,1],[],[],[],[],[0],[]]
 | 92=>[[],[]]
 | _=>[]
end
end Go.Proofs.YtncaiogfjjepcaaGreatDoor
namespace Go.Sim
section
def iO (l:Nat):Nat:=1024 / 2^l
end
end Go.Sim
namespace Go.Proofs.YtncaiogfjjepcaaGreatDoor
open Go.Sim
section
theorem Yw {l:Nat} {h:ae} {K:Value->ae->Prop} (h1:1<=l) (h2:l<=10) (hk:K (I (iO l:Nat)) h):aw prog 29 [I l] h K:=by
 refine f29 ?_
 have e:ai .shr (.int .i64 1024) (I l)=some (I (iO l:Nat)):=by
  have:l=1∨l=2∨l=3∨l=4∨l=5∨l=6∨l=7∨l=8∨l=9∨l=10:=by omega
  rcases this with rfl | rfl | rfl | rfl | rfl | rfl | rfl | rfl | rfl | rfl <;> rfl
 simp only [DB,e,ag]
 exact hk
theorem Lo {v:Value} {ns:List Int} {h:ae} {K:Value->ae->Prop} (hv:NS h v .i64 ns) (h0:0<ns.length) (hl:ns.length<=1000) (hk:∀m,m∈ns->(∀x∈ns,m<=x)->K (I m) h):aw prog 46 [v] h K:=by
 refine f46 ?_
 obtain ⟨b,o,g1,g2⟩:=hv.get 0 h0
 have oz:aI 1 v (.int .i64 (0))=some (pt b o):=g1
 simp only [DN,hv.len,ag,cb,bN (show ¬((ns.length:Int)<1) by omega),cN]
 rw [anj]
 simp only [oz,g2,ag]
 refine cG (σ:=Nat×Int) (λq=>[I q.2,I q.1]) (λ_=>h) (λq=>(1<=q.1/\q.1<=ns.length)/\q.2∈ns/\∀x∈ns.take q.1,q.2<=x) (λq=>ns.length-q.1) (1,ns[0]) rfl rfl ⟨⟨le_refl _,h0⟩,getElem_mem _,λx hx=>?_⟩ ?_
 ·cases ns with
  | nil=>simp at h0
  | cons y ys=>simp at hx;subst hx;exact Int.le_refl _
 rintro ⟨i,m⟩ ⟨⟨nJ,hi⟩,hm,hle⟩ L hL
 simp only at nJ hi hm hle hL⊢
 rw [ank]
 simp only [hv.len,ag,cb,bL]
 refine ⟨λar=>?_,λcY=>?_⟩
 ·have eS:i<ns.length:=by omega
  obtain ⟨b,o,g1,g2⟩:=hv.get i eS
  simp only [g1,g2,ag,min2,cD,mP i (by omega),true_and]
  refine hL (i+1,min m ns[i]) ⟨⟨by show 1<=i+1;omega,by show i+1<=_;omega⟩,?_,?_⟩ (by show ns.length-(i+1)<ns.length-i;omega)
  ·show min m ns[i]∈ns
   rcases Int.le_total m ns[i] with h | h
   ·rw [Int.min_eq_left h];exact hm
   ·rw [Int.min_eq_right h];exact getElem_mem _
  ·intro x hx
   show min m ns[i]<=x
   simp only [List.take_succ_eq_append_getElem eS,mem_append,List.mem_singleton] at hx
   rcases hx with hx | rfl
   ·have:=hle x hx;omega
   ·omega
 ·have:i=ns.length:=by omega
  subst this
  rw [List.take_length] at hle
  rw [ani]
  exact hk m hm hle
theorem Lp {v:Value} {ns:List Int} {h:ae} {K:Value->ae->Prop} (hv:NS h v .i64 ns) (h0:0<ns.length) (hl:ns.length<=1000) (hk:∀m,m∈ns->(∀x∈ns,x<=m)->K (I m) h):aw prog 47 [v] h K:=by
 refine f47 ?_
 obtain ⟨b,o,g1,g2⟩:=hv.get 0 h0
 have oz:aI 1 v (.int .i64 (0))=some (pt b o):=g1
 simp only [DO,hv.len,ag,cb,bN (show ¬((ns.length:Int)<1) by omega),cN]
 rw [anm]
 simp only [oz,g2,ag]
 refine cG (σ:=Nat×Int) (λq=>[I q.2,I q.1]) (λ_=>h) (λq=>(1<=q.1/\q.1<=ns.length)/\q.2∈ns/\∀x∈ns.take q.1,x<=q.2) (λq=>ns.length-q.1) (1,ns[0]) rfl rfl ⟨⟨le_refl _,h0⟩,getElem_mem _,λx hx=>?_⟩ ?_
 ·cases ns with
  | nil=>simp at h0
  | cons y ys=>simp at hx;subst hx;exact Int.le_refl _
 rintro ⟨i,m⟩ ⟨⟨nJ,hi⟩,hm,hle⟩ L hL
 simp only at nJ hi hm hle hL⊢
 rw [ann]
 simp only [hv.len,ag,cb,bL]
 refine ⟨λar=>?_,λcY=>?_⟩
 ·have eS:i<ns.length:=by omega
  obtain ⟨b,o,g1,g2⟩:=hv.get i eS
  simp only [g1,g2,ag,akI,cD,mP i (by omega),true_and]
  refine hL (i+1,max m ns[i]) ⟨⟨by show 1<=i+1;omega,by show i+1<=_;omega⟩,?_,?_⟩ (by show ns.length-(i+1)<ns.length-i;omega)
  ·show max m ns[i]∈ns
   rcases Int.le_total m ns[i] with h | h
   ·rw [Int.max_eq_right h];exact getElem_mem _
   ·rw [Int.max_eq_left h];exact hm
  ·intro x hx
   show x<=max m ns[i]
   simp only [List.take_succ_eq_append_getElem eS,mem_append,List.mem_singleton] at hx
   rcases hx with hx | rfl
   ·have:=hle x hx;omega
   ·omega
 ·have:i=ns.length:=by omega
  subst this
  rw [List.take_length] at hle
  rw [anl]
  exact hk m hm hle
end
section
theorem Bv {b:Nat} {g:ae} {v:Value} {l:List Nat} (own:cK b g 3 v (l.map λl:Nat=>I l)) (hl:l.length<=1000):NS g v .i64 (l.map λl:Nat=>(l:Int)):=by
 rcases own with ⟨rfl,e2⟩ | ⟨b,_,rfl,e3⟩
 ·have:l=[]:=by simpa using e2
  subst this
  exact NS.nil _ _
 ·have:=NS.arr (k:=.i64) (e:=3) (ns:=l.map λl:Nat=>(l:Int)) (h:=g) (i:=b) (by rw [e3,List.map_map];rfl) (by simp [maxLen];omega)
  simpa using this
end
end Go.Proofs.YtncaiogfjjepcaaGreatDoor
namespace Go.Sim
section
theorem akR {h:ae} {im it c:Nat} {g:dZ} {es:List (Nat×Value×Value)} {seen:List Nat} (hm:h[im]?=some (.cp g c es)) (hi:h[it]?=some (.iter im c seen c)) (hl:∀e∈es,e.1<c):
  rV h (pt it 0)=some ((if (es.filter λe=> !seen.contains e.1).isEmpty=true then [(.tuple #[.bool false],h)] else [])++
   (es.filter λe=> !seen.contains e.1).map λe=>(.tuple #[.bool true,e.2.1,e.2.2],h.set it (.iter im c (seen++[e.1]) c))):=by
 have e2:∀l':List (Nat×Value×Value),(∀e∈l',e.1<c)->l'.filter (λe=>decide (e.1<c))=l'/\l'.filter (λe=>decide (c<=e.1))=[]:=by
  intro l' kT
  refine ⟨List.filter_eq_self.2 λx hx=>cz (kT x hx),List.filter_eq_nil_iff.2 λx hx=>?_⟩
  have:=kT x hx
  simp only [decide_eq_true_eq]
  omega
 have mD:∀e∈es.filter (λe=> !seen.contains e.1),e.1<c:=λs hs=>hl s (List.mem_filter.1 hs).1
 have e3:(!seen.isEmpty&& !es.isEmpty&&es.all λe=>decide (c<=e.1))=false:=by
  cases es with
  | nil=>simp
  | cons a l=>
   have:=hl a (by simp)
   have:decide (c<=a.1)=false:=bN (by omega)
   simp [this]
 simp only [rV,pt,hi,hm,e3,Bool.false_eq_true,if_false,(e2 _ mD).1,(e2 _ mD).2,List.append_nil]
def J3 (l:List (List UInt8×List UInt8)):List (Nat×Value×Value):=l.zipIdx.map λp=>(p.2,S p.1.1,S p.1.2)
end
end Go.Sim
namespace Go.Proofs.YtncaiogfjjepcaaGreatDoor
open Go.Sim
section
noncomputable def wR:hG:=λ_ _ _=>none
theorem Uo:lY prog wR:=⟨λ_ _ _ _ _ he=>by simp [wR] at he,λ_ _ _ _ _ he=>by simp [wR] at he⟩
theorem apq:(qN prog Aj 100 wR 10 (.func 36) [.slice none 0 0] []).map Prod.fst=some (.tuple #[]):=by kernel_rfl
theorem YB {h:ae} {K:Value->ae->Prop} (hk:K (.tuple #[]) h):aw prog 36 [.slice none 0 0] h K:=by
 obtain ⟨h',hc⟩:=P8 Aj 100 10 Uo apq
 exact PO (fW.tuple (l:=[]) .nil) hc rfl hk
theorem Yo {im c:Nat} {h:ae} {K:Value->ae->Prop} (hm:h[im]?=some (.cp .str c (J3 []))) (hk:K (.slice none 0 0) h):aw prog 17 [.map (some im)] h K:=by
 refine aeF (fW.dF rfl) (f17 ?_) hk
 have rg:tO h (.map (some im))=some (pt h.length 0,h++[.iter im c [] c]):=by simp only [tO,hm]
 unfold Ds
 simp only [rg,bc]
 have x0:EX h (h++[.iter im c [] c]):=EX.append _ _
 have k0:(h++[ax.iter im c [] c])[h.length]?=some (.iter im c [] c):=bP
 generalize h++[ax.iter im c [] c]=g at x0 k0⊢
 refine cG (σ:=Unit) (λ_=>[.slice none 0 0]) (λ_=>g) (λ_=>True) (λ_=>0) () rfl rfl trivial ?_
 rintro ⟨⟩ _ L hL
 rw [al2,akR (x0.get hm) k0 (λe he=>by simp [J3] at he)]
 simp only [abJ]
 intro pr hpr
 have:pr=(.tuple #[.bool false],g):=by simpa [J3] using hpr
 subst this
 have x0':cd 0 (.tuple #[Value.bool false])=some (.bool false):=rfl
 simp only [x0',ag,cN]
 rw [al1]
 refine YB ?_
 exact ⟨rfl,x0⟩
end
section
def gV (c:UInt8):Bool:=c==48||c==49
def kv (s:List UInt8):Bool:=s.all gV
def ji:List Value:=(List.range 256).map λi=>.bool (i==48||i==49)
theorem abZ:ji.length=256:=by simp [ji]
theorem abY (c:UInt8):ji[c.toNat]?=some (B (gV c)):=by
 have h:=c.toNat_lt
 unfold ji
 rw [List.getElem?_map,List.getElem?_range (by omega)]
 have e:(c.toNat==48||c.toNat==49)=gV c:=by
  have e1:(c.toNat==48)=(c==48):=by
   rw [Bool.eq_iff_iff,beq_iff_eq,beq_iff_eq,<-UInt8.toNat_inj];rfl
  have e2:(c.toNat==49)=(c==49):=by
   rw [Bool.eq_iff_iff,beq_iff_eq,beq_iff_eq,<-UInt8.toNat_inj];rfl
  rw [e1,e2];rfl
 simp only [Option.map_some,e]
theorem Xf:∀vs:List Value,(∀v∈vs,dF v=true)->py (vs.map λv=>λ_:Nat=>v)
 | [],_=>.nil
 | v::vs,h=>.cons (fW.dF (h v (by simp))) (Xf vs λx hx=>h x (by simp [hx]))
theorem aph:(qN prog Aj 1000 wR 10 (.func 71) [S [48,49]] []).map Prod.fst=some (.tuple #[.agg ji.toArray,.bool true]):=by kernel_rfl
theorem aog (vs:List Value) (h:∀v∈vs,dF v=true) (hc:∀v∈vs,ep v=true):fW λ_=>.agg vs.toArray:=by
 have:=fW.agg (Xf vs h) (λj V hV=>by
  obtain ⟨v,hv,rfl⟩:=List.mem_map.1 hV
  exact hc v hv)
 simpa [List.map_map,Function.comp_def] using this
theorem YR {h:ae} {K:Value->ae->Prop} (hk:K (.tuple #[.agg ji.toArray,.bool true]) h):aw prog 71 [S [48,49]] h K:=by
 obtain ⟨h',hc⟩:=P8 Aj 1000 10 Uo aph
 have hs:∀v∈ji,dF v=true/\ep v=true:=by
  intro v hv
  obtain ⟨i,_,rfl⟩:=List.mem_map.1 hv
  exact ⟨rfl,rfl⟩
 exact PO (fW.tuple (l:=[λ_=>.agg ji.toArray,λ_=>.bool true]) (.cons (aog _ (λv hv=>(hs v hv).1) λv hv=>(hs v hv).2) (.cons (fW.dF rfl) .nil))) hc rfl hk
theorem Lu {i:Nat} {c:UInt8} {h:ae} {K:Value->ae->Prop} (hg:h[i]?=some (.arr 114 ji)) (hk:K (B (gV c)) h):aw prog 92 [pt i 0,cv c] h K:=by
 refine f92 ?_
 have ar:=c.toNat_lt
 have a1:tN (pt i 0)=some (pt i 0):=rfl
 have a2:tL 256 1 (pt i 0) (cv c)=some (pt i c.toNat):=by
  have:(0:Int)<=(c.toNat:Int)/\(c.toNat:Int)<256:=by omega
  simp [tL,this]
 have a3:af false 1 h (pt i c.toNat)=some (B (gV c)):=by simp [af,bn,hg,cU,abY]
 simp only [Eh,a1,a2,a3,ag]
 exact hk
def nX (s:List UInt8):List UInt8:=(s.reverse.dropWhile gV).reverse
theorem apG (s:List UInt8) (c:UInt8):nX (s++[c])=if gV c then nX s else s++[c]:=by
 simp only [nX,List.reverse_append,List.reverse_cons,List.reverse_nil,nil_append,List.singleton_append,dropWhile_cons]
 split
 ·rfl
 ·simp
theorem YT {i:Nat} {s0:List UInt8} {h:ae} {K:Value->ae->Prop} (hl:s0.length<4611686018427387904) (hg:h[i]?=some (.arr 114 ji)) (hk:K (S (nX s0)) h):aw prog 73 [S s0,pt i 0] h K:=by
 refine f73 ?_
 unfold Ed
 refine cG (σ:=List UInt8) (λs=>[S s]) (λ_=>h) (λs=>nX s=nX s0/\s.length<=s0.length) (λs=>s.length) s0 rfl rfl ⟨rfl,le_refl _⟩ ?_
 rintro s ⟨hs,vX⟩ L hL
 rw [an0]
 simp only [gX,ag,fY,bL]
 refine ⟨λj6=>?_,λhz=>?_⟩
 ·obtain ⟨t,c,rfl⟩:∃t c,s=t++[c]:=⟨s.dropLast,s.getLast (by rintro rfl;simp at j6),(List.dropLast_concat_getLast _).symm⟩
  rw [List.length_append,List.length_singleton] at vX
  have w:IntKind.wrap .i64 (((t++[c]).length:Int)-1)=(t.length:Int):=by
   rw [List.length_append,List.length_singleton,wrap64 (by omega) (by omega)];omega
  have ix:ja (S (t++[c])) (I t.length)=some (cv c):=by
   have:=GU (a:=t++[c]) (i:=t.length) (by simp) .i64
   simpa using this
  have sx:gh (S (t++[c])) none (some (I t.length))=some (S t):=by
   have:=Cc (a:=t++[c]) (n:=t.length) (by simp) .i64
   simpa using this
  simp only [ku,w,ag,ix]
  refine Lu hg ?_
  simp only [jf,ag]
  rw [apG] at hs
  cases hb:gV c with
  | true=>
   rw [hb] at hs
   simp only [if_true] at hs
   simp only [Bool.not_true,cN,ag,sx,true_and]
   exact hL t ⟨hs,by omega⟩ (by simp)
  | false=>
   rw [hb] at hs
   simp only [Bool.false_eq_true,if_false] at hs
   simp only [Bool.not_false,fD]
   rw [W6,hs]
   exact hk
 ·have:s=[]:=by
   cases s with
   | nil=>rfl
   | cons c s=>simp at hz
  subst this
  rw [W6]
  have e:nX s0=[]:=hs.symm
  rw [e] at hk
  exact hk
theorem YS {i:Nat} {s0:List UInt8} {h:ae} {K:Value->ae->Prop} (hg:h[i]?=some (.arr 114 ji)) (hk:K (S (s0.dropWhile gV)) h):aw prog 72 [S s0,pt i 0] h K:=by
 refine f72 ?_
 unfold Ec
 refine cG (σ:=List UInt8) (λs=>[S s]) (λ_=>h) (λs=>s.dropWhile gV=s0.dropWhile gV) (λs=>s.length) s0 rfl rfl rfl ?_
 intro s hs L hL
 rw [anZ]
 simp only [gX,ag,fY,bL]
 refine ⟨λj6=>?_,λhz=>?_⟩
 ·cases s with
  | nil=>simp at j6
  | cons c t=>
   have ix:ja (S (c::t)) (.int .i64 (0))=some (cv c):=by
    have:=GU (a:=c::t) (i:=0) (by simp) .i64
    simpa using this
   have sx:gh (S (c::t)) (some (.int .i64 (1))) none=some (S t):=by
    have:=XL (a:=c::t) (n:=1) (by simp) .i64
    simpa using this
   simp only [ix,ag]
   refine Lu hg ?_
   simp only [jf,ag]
   cases hb:gV c with
   | true=>
    simp only [Bool.not_true,cN,sx,ag,true_and]
    refine hL t ?_ (by simp)
    rw [dropWhile_cons,if_pos hb] at hs
    exact hs
   | false=>
    simp only [Bool.not_false,fD]
    rw [dropWhile_cons,if_neg (by rw [hb];simp)] at hs
    rw [W5,hs]
    exact hk
 ·have:s=[]:=by
   cases s with
   | nil=>rfl
   | cons c s=>simp at hz
  subst this
  rw [W5]
  rw [<-hs] at hk
  exact hk
theorem apH {s:List UInt8}:(nX s).dropWhile gV=[]↔kv s=true:=by
 have dw:∀l:List UInt8,l.dropWhile gV=[]↔l.all gV=true:=by
  intro l
  induction l with
  | nil=>simp
  | cons c l ih=>
   rw [dropWhile_cons]
   cases hb:gV c <;> simp [hb,ih]
 have mem:∀l:List UInt8,(∀c∈l.dropWhile gV,gV c=true)->l.dropWhile gV=[]:=by
  intro l h
  induction l with
  | nil=>rfl
  | cons c l ih=>
   rw [dropWhile_cons] at h⊢
   split
   ·rename_i hb;rw [if_pos hb] at h;exact ih h
   ·rename_i hb;rw [if_neg hb] at h;exact absurd (h c (by simp)) hb
 rw [dw,List.all_eq_true]
 unfold nX kv
 constructor
 ·intro h
  have:s.reverse.dropWhile gV=[]:=mem _ λc hc=>h c (by simpa using hc)
  rw [dw] at this
  simpa using this
 ·intro h c hc
  have:s.reverse.dropWhile gV=[]:=(dw _).2 (by simpa using h)
  rw [this] at hc
  simp at hc
theorem aiH (e:TypeId) (zs:List Value) (h:ae):cH e zs h=some (pt h.length 0,h++[.arr e zs]):=rfl
theorem apw {g:ae} {i:Nat} {e:TypeId} {zs vs:List Value} (hg:g[i]?=some (.arr e zs)) (h1:zs.length=256) (h2:vs.length=256):bE 256 g (pt i 0) (.agg vs.toArray)=some (undef,g.set i (.arr e vs)):=by
 have hv:bK (.agg vs.toArray)=vs:=by simp [bK,Value.cells]
 have:setAt zs 0 vs=vs:=by simp [setAt,h1,h2]
 simp only [bE,oT,hg,hv,this]
 rw [if_pos ⟨rfl,h2,by omega⟩]
 rfl
theorem Lj {s:List UInt8} {h:ae} {K:Value->ae->Prop} (hl:s.length<4611686018427387904) (hk:∀h',EX h h'->K (B (kv s)) h'):aw prog 33 [S s] h K:=by
 refine f33 (f53 ?_)
 have e1:∀s:List UInt8,ai .eql (S s) (.string ⟨#[]⟩)=some (B (decide (s=[]))):=λs=>by show ai .eql (S s) (S [])=_;rw [kN]
 have e2:ai .eql (.string ⟨#[48,49]⟩) (.string ⟨#[]⟩)=some (B false):=rfl
 have e3:dN (.string ⟨#[48,49]⟩)=some (I 2):=rfl
 simp only [DV,e1,ag]
 rw [anw]
 by_cases hs:s=[]
 ·subst hs
  simp only [decide_true,kK,W2,fh,ag,fD,e1]
  exact hk h (EX.refl _)
 simp only [bN hs,gK,e2,ag]
 rw [W2]
 simp only [dO,ag,cN,e3,ij,bN (show ¬(2:Int)=1 by decide)]
 rw [anu]
 simp only [jz]
 rw [anv]
 have x0:∀zs,EX h ((h++[ax.arr 114 zs]).set h.length (.arr 114 ji)):=λzs=>(EX.append _ _).set (le_refl _) _
 have k0:∀zs,((h++[ax.arr 114 zs]).set h.length (.arr 114 ji))[h.length]?=some (.arr 114 ji):=λzs=>List.getElem?_set_self (by simp)
 have x1:cd 0 (.tuple #[.agg ji.toArray,.bool true])=some (.agg ji.toArray):=rfl
 have x2:cd 1 (.tuple #[.agg ji.toArray,.bool true])=some (.bool true):=rfl
 refine yR (dO _ _) (cN.2 (YR (yR x1 (yR x2 (l6 (aiH _ _ _) (l6 (apw bP (by kernel_rfl) abZ) (fD.2 ?_)))))))
 have this:decide ((nX s).dropWhile gV=[])=kv s:=by
  rw [Bool.eq_iff_iff,decide_eq_true_eq,apH]
 rw [<-this] at hk
 exact YT hl (k0 _) (YS (k0 _) (yR (e1 _) (hk _ (x0 _))))
end
section
theorem YA {s p:List UInt8} {h:ae} {K:Value->ae->Prop} (hk:K (B (decide (p<+:s))) h):aw prog 35 [S s,S p] h K:=by
 refine f35 ?_
 unfold DF
 simp only [gX,ag,lG]
 rw [amA]
 by_cases hl:p.length<=s.length
 ·rw [cz (show (p.length:Int)<=s.length by omega)]
  simp only [hI,gX,ag,Cc (a:=s) hl .i64,kN]
  rw [Wy]
  simp only [fh,ag]
  have:decide (s.take p.length=p)=decide (p<+:s):=decide_eq_decide.2 (by rw [List.prefix_iff_eq_take];exact eq_comm)
  rw [this]
  exact hk
 ·rw [bN (show ¬(p.length:Int)<=s.length by omega)]
  simp only [jz]
  rw [Wy]
  simp only [dO,ag]
  have:decide (p<+:s)=false:=bN λh=>hl h.length_le
  rw [this] at hk
  exact hk
theorem Lg {s p:List UInt8} {h:ae} {K:Value->ae->Prop} (hk:K (B (decide (p<+:s))) h):aw prog 14 [S s,S p] h K:=
 f14 (YA hk)
def rk (t:List UInt8):Nat:=t.foldl (λn c=>2*n+(if c=49 then 1 else 0)) 1
theorem aoi {α:Type} {P:List α->Prop} (h0:P []) (h1:∀t c,P t->P (t++[c])) (l:List α):P l:=by
 have:∀n (l:List α),l.length=n->P l:=by
  intro n
  induction n with
  | zero=>intro l hl;rw [List.length_eq_zero_iff.1 hl];exact h0
  | succ n ih=>
   intro l hl
   have hn:l≠[]:=by rintro rfl;simp at hl
   rw [<-List.dropLast_concat_getLast hn]
   exact h1 _ _ (ih _ (by rw [List.length_dropLast];omega))
 exact this _ l rfl
theorem Xi (t:List UInt8) (c:UInt8):rk (t++[c])=2*rk t+(if c=49 then 1 else 0):=by simp [rk,List.foldl_append]
theorem aoj {a b:List UInt8} (h:rk a<=rk b) (r:List UInt8):rk (a++r)<=rk (b++r):=by
 refine aoi (P:=λr=>rk (a++r)<=rk (b++r)) (by simpa using h) (λr c ih=>?_) r
 rw [<-List.append_assoc,<-List.append_assoc,Xi,Xi];split <;> omega
theorem Yz {v:Value} {ls:List (List UInt8)} {w:List UInt8} {h:ae} {K:Value->ae->Prop} (hv:SS h v ls) (hl:ls.length<4611686018427387904) (hk:K (B (decide (w∈ls))) h):aw prog 34 [v,S w] h K:=by
 refine f34 (f54 ?_)
 unfold DW
 simp only [hv.len,ag]
 refine cG (σ:=Nat) (λi=>[I i]) (λ_=>h) (λi=>i<=ls.length/\∀j (hj:j<ls.length),j<i->ls[j]≠w) (λi=>ls.length-i) 0 rfl rfl ⟨Nat.zero_le _,λj _ hj=>absurd hj (by omega)⟩ ?_
 rintro i ⟨hi,cL⟩ L hL
 rw [anx]
 simp only [cb,ag,bL]
 refine ⟨λar=>?_,λcY=>?_⟩
 ·have ar:i<ls.length:=by omega
  obtain ⟨b,o,e1,e2⟩:=hv.get i ar
  simp only [e1,e2,ag,kN,bL,lG,cD]
  refine ⟨λhe=>?_,λaU=>⟨trivial,?_⟩⟩
  ·rw [cz (show w∈ls from he ▸ getElem_mem ar)] at hk
   rw [cz (show (0:Int)<=i by omega)]
   exact hk
  ·rw [dW i (by simp [maxLen];omega)]
   refine hL (i+1) ⟨ar,λj hj vN=>?_⟩ (by omega)
   rcases Nat.lt_succ_iff_lt_or_eq.1 vN with h' | h'
   ·exact cL j hj h'
   ·subst h';exact λh=>aU h.symm
 ·have:w∉ls:=by
   intro hw
   obtain ⟨j,hj,e⟩:=List.getElem_of_mem hw
   exact cL j hj (by omega) e
  rw [bN this] at hk
  simp only [lG,ag]
  exact hk
def codeOk (ls:List (List UInt8)):Prop:=ls.Nodup/\∀w∈ls,w≠[]/\w.length<=10/\kv w=true
open Classical in
noncomputable def iC (ls:List (List UInt8)) (s:List UInt8):Int:=if 12<ls.length∨200<s.length then 3 else if ls=[]∨kv s=false then 2 else if codeOk ls then 0 else 2
theorem HI {b:Nat} {g:ae} {v:Value} {ls:List (List UInt8)} (own:cK b g 9 v (ls.map S)):SS g v ls:=by
 rcases own with ⟨rfl,e⟩ | ⟨i,_,rfl,hg⟩
 ·have:ls=[]:=by simpa using e
  subst this
  exact ⟨rfl,λk hk=>by simp at hk⟩
 ·rw [List.length_map]
  exact SS.sl (by simp [bn,hg])
structure SV (h:ae) (v:Value) (ls:List (List UInt8)):Prop where
 ss:SS h v ls
 part:∀k,k<=ls.length->∃u,gH 9 1 v none (some (I k))=some u/\SS h u (ls.take k)
theorem SV.mono {h h':ae} {v:Value} {ls:List (List UInt8)} (x:EX h h') (p:SV h v ls):SV h' v ls:=
 ⟨p.ss.mono x,λk hk=>let ⟨u,a,b⟩:=p.part k hk;⟨u,a,b.mono x⟩⟩
theorem CF {v:Value} {ls:List (List UInt8)} {s:List UInt8} {h:ae} {K:Value->ae->Prop} (hv:SV h v ls) (hl:ls.length<1000000) (hw:∀w∈ls,w.length<4611686018427387904) (hs:s.length<4611686018427387904) (hk:∀h',EX h h'->K (I (iC ls s)) h'):aw prog 13 [v,S s] h K:=by
 refine f13 ?_
 unfold Dr
 simp only [hv.ss.len,ag,fY]
 have e1:∀s:List UInt8,ai .eql (S s) (.string ⟨#[]⟩)=some (B (decide (s=[]))):=λs=>by show ai .eql (S s) (S [])=_;rw [kN]
 rw [al0]
 have Sn:(12<ls.length∨200<s.length)->K (I 3) h:=λhc=>by
  have:=hk h (EX.refl h)
  rwa [iC,if_pos hc] at this
 by_cases h1:12<ls.length
 ·rw [cz (show (12:Int)<ls.length by omega)]
  simp only [kK,Wv,fh,ag,fD]
  exact Sn (.inl h1)
 rw [bN (show ¬(12:Int)<ls.length by omega)]
 simp only [gK,gX,fY,ag,Wv,dO]
 by_cases h2:200<s.length
 ·rw [cz (show (200:Int)<s.length by omega)]
  simp only [fD]
  exact Sn (.inr h2)
 rw [bN (show ¬(200:Int)<s.length by omega)]
 simp only [cN,hv.ss.len,ag,ij]
 rw [alX]
 have bad:∀g,EX h g->(ls=[]∨kv s=false)->K (I 2) g:=λg xg hc=>by
  have:=hk g xg
  rwa [iC,if_neg (by omega),if_pos hc] at this
 by_cases h3:ls=[]
 ·rw [cz (show (ls.length:Int)=0 by simp [h3])]
  simp only [kK,Ws,fh,ag,fD]
  exact bad _ (EX.refl h) (.inl h3)
 rw [bN (show ¬(ls.length:Int)=0 by have:=List.length_pos_iff.2 h3;omega)]
 simp only [gK]
 refine Lj hs ?_
 intro h4 x4
 simp only [jf,ag,Ws,dO]
 cases hb:kv s with
 | false=>
  simp only [Bool.not_false,fD]
  exact bad _ x4 (.inr hb)
 | true=>
  simp only [Bool.not_true,cN,hv.ss.len,ag]
  have af5:∀g,EX h g->codeOk ls->K (I 0) g:=λg xg hc=>by
   have:=hk g xg
   rwa [iC,if_neg (by omega),if_neg (by simp [h3,hb]),if_pos hc] at this
  have kP:∀g,EX h g->¬codeOk ls->K (I 2) g:=λg xg hc=>by
   have:=hk g xg
   rwa [iC,if_neg (by omega),if_neg (by simp [h3,hb]),if_neg hc] at this
  refine cG (σ:=Nat×ae) (λq=>[I q.1]) (λq=>q.2) (λq=>q.1<=ls.length/\EX h q.2/\∀j (hj:j<ls.length),j<q.1->(ls[j]≠[]/\ls[j].length<=10/\kv ls[j]=true)/\ls[j]∉ls.take j) (λq=>ls.length-q.1) (0,h4) rfl rfl ⟨Nat.zero_le _,x4,λj _ hj=>absurd hj (Nat.not_lt_zero _)⟩ ?_
  rintro ⟨i,g⟩ ⟨hi,xg,aC⟩ L hL
  simp only at hi xg aC hL⊢
  rw [alY]
  simp only [cb,ag,bL]
  refine ⟨λar=>?_,λcY=>?_⟩
  ·have ar:i<ls.length:=by omega
   obtain ⟨b,o,a1,a2⟩:=(hv.ss.mono xg).get i ar
   have mem:ls[i]∈ls:=getElem_mem ar
   have wq:=hw _ mem
   simp only [a1,a2,ag,e1]
   rw [alZ]
   by_cases w1:ls[i]=[]
   ·simp only [cz w1,kK,Wt,Wu,Jh,Ji,BT,fh,ag,fD]
    exact kP _ xg λhc=>(hc.2 _ mem).1 w1
   simp only [bN w1,gK,gX,fY,ag,Wt,dO]
   rw [Wu]
   by_cases w2:10<ls[i].length
   ·rw [cz (show (10:Int)<ls[i].length by omega)]
    simp only [kK,Jh,Ji,BT,fh,ag,fD]
    exact kP _ xg λhc=>by have:=(hc.2 _ mem).2.1;omega
   rw [bN (show ¬(10:Int)<ls[i].length by omega)]
   simp only [gK]
   refine Lj wq ?_
   intro g2 x2
   simp only [jf,ag,Jh,dO]
   rw [Ji]
   cases w3:kv ls[i] with
   | false=>
    simp only [Bool.not_false,kK,BT,fh,ag,fD]
    exact kP _ (xg.trans x2) λhc=>by rw [(hc.2 _ mem).2.2] at w3;simp at w3
   | true=>
    obtain ⟨u,s1,s2⟩:=(hv.mono (xg.trans x2)).part _ (Nat.le_of_lt ar)
    simp only [Bool.not_true,gK,s1,ag]
    refine Yz s2 (by rw [List.length_take];omega) ?_
    rw [BT]
    simp only [dO,ag,bL,cD]
    refine ⟨λgS=>kP _ (xg.trans x2) λhc=>?_,λGj=>⟨trivial,?_⟩⟩
    ·obtain ⟨j,hj,e⟩:=List.getElem_of_mem gS
     rw [List.length_take] at hj
     rw [List.getElem_take] at e
     exact (List.pairwise_iff_getElem.1 hc.1) j i (by omega) ar (by omega) e
    ·rw [dW i (by simp [maxLen];omega)]
     refine hL (i+1,g2) ⟨ar,xg.trans x2,λj hj vN=>?_⟩ (by show ls.length-(i+1)<ls.length-i;omega)
     have vN:j<i+1:=vN
     rcases Nat.lt_succ_iff_lt_or_eq.1 vN with h' | h'
     ·exact aC j hj h'
     ·subst h';exact ⟨⟨w1,by omega,w3⟩,Gj⟩
  ·refine af5 _ xg ⟨List.pairwise_iff_getElem.2 λa b ha hb j2 e=>?_,λw hw=>?_⟩
   ·exact (aC b hb (by omega)).2 (e ▸ List.mem_take_iff_getElem.2 ⟨a,by omega,rfl⟩)
   ·obtain ⟨j,hj,rfl⟩:=List.getElem_of_mem hw
    exact (aC j hj (by omega)).1
end
section
abbrev Tx:=List UInt8
def look (k:Tx):List (Tx×Tx)->Option Tx
 | []=>none
 | p::l=>if k=p.1 then some p.2 else look k l
end
section
inductive Rc (W:List Tx):Tx->Tx->Prop
 | init {v w:Tx}:v∈W->w∈W->v≠w->v<+:w->Rc W (w.drop v.length) w
 | fwd {a t w:Tx}:Rc W a t->a≠[]->w∈W->a<+:w->Rc W (w.drop a.length) (t++w.drop a.length)
 | bwd {a t w:Tx}:Rc W a t->a≠[]->w∈W->w<+:a->Rc W (a.drop w.length) t
structure Ok (W:List Tx):Prop where
 nd:W.Nodup
 ne:∀w∈W,w≠[]
 le:∀w∈W,w.length<=10
 bt:∀w∈W,kv w=true
 gF:W.length<=12
def afY:Nat:=1400
def wt (l:List (Tx×Tx)) (k:Tx):Nat:=match look k l with | some t=>rk t | none=>2^afY
def YX (l:List (Tx×Tx)) (a w:Tx):Prop:=a≠[]->∀t,look a l=some t->
 (a<+:w->∃t',look (w.drop a.length) l=some t'/\rk t'<=rk (t++w.drop a.length))/\(¬a<+:w->w<+:a->∃t',look (a.drop w.length) l=some t'/\rk t'<=rk t)
def Y1 (W:List Tx) (l:List (Tx×Tx)):Prop:=∀v∈W,∀w∈W,v≠w->v<+:w->∃t',look (w.drop v.length) l=some t'/\rk t'<=rk w
theorem least {W:List Tx} {l:List (Tx×Tx)} (hi:Y1 W l) (hc:∀a t,look a l=some t->∀w∈W,YX l a w) {a t:Tx} (r:Rc W a t):∃t',look a l=some t'/\rk t'<=rk t:=by
 induction r with
 | init hv hw h1 h2=>exact hi _ hv _ hw h1 h2
 | fwd _ hn hw hp ih=>
  obtain ⟨t',e1,e2⟩:=ih
  obtain ⟨u,f1,f2⟩:=(hc _ _ e1 _ hw hn _ e1).1 hp
  exact ⟨u,f1,Nat.le_trans f2 (aoj e2 _)⟩
 | @bwd a t w _ hn hw hp ih=>
  obtain ⟨t',e1,e2⟩:=ih
  by_cases hq:a<+:w
  ·have:a=w:=hq.eq_of_length (Nat.le_antisymm hq.length_le hp.length_le)
   subst this
   obtain ⟨u,f1,f2⟩:=(hc _ _ e1 _ hw hn _ e1).1 hq
   rw [List.drop_length] at f1 f2⊢
   rw [List.append_nil] at f2
   exact ⟨u,f1,Nat.le_trans f2 e2⟩
  ·obtain ⟨u,f1,f2⟩:=(hc _ _ e1 _ hw hn _ e1).2 hq hp
   exact ⟨u,f1,Nat.le_trans f2 e2⟩
end
end Go.Proofs.YtncaiogfjjepcaaGreatDoor
namespace Go.Sim
section
def rO (ls:List Nat):Prop:=∀l∈ls,1<=l/\l<=10
theorem JJ {l:Nat} (h1:1<=l) (h2:l<=10):1<=iO l/\iO l<=512:=by
 have:l=1∨l=2∨l=3∨l=4∨l=5∨l=6∨l=7∨l=8∨l=9∨l=10:=by omega
 rcases this with rfl | rfl | rfl | rfl | rfl | rfl | rfl | rfl | rfl | rfl <;> decide
end
section
def val (B:Nat):List Nat->Nat
 | []=>0
 | d::ds=>d+B*val B ds
def ee (B:Nat) (xs:List Nat):Prop:=∀x∈xs,x<B
def dA (B:Nat) (xs:List Nat):Prop:=ee B xs/\xs.getLast?≠some 0
theorem uw (B:Nat):∀xs ys:List Nat,val B (xs++ys)=val B xs+B^xs.length*val B ys
 | [],ys=>by simp [val]
 | x::xs,ys=>by
  simp only [List.cons_append,val,uw B xs ys,List.length_cons,Nat.pow_succ]
  grind
theorem Cm (B:Nat):∀n,val B (List.replicate n 0)=0
 | 0=>rfl
 | n+1=>by rw [List.replicate_succ];simp [val,Cm B n]
theorem ux (B:Nat):∀(xs:List Nat) (i d:Nat) (hi:i<xs.length),val B (xs.set i d)+B^i*xs[i]=val B xs+B^i*d
 | [],i,d,hi=>by simp at hi
 | x::xs,0,d,hi=>by simp [val];omega
 | x::xs,i+1,d,hi=>by
  have ih:=ux B xs i d (by simpa using hi)
  simp only [List.set_cons_succ,val,List.getElem_cons_succ,Nat.pow_succ]
  grind
theorem uy (B:Nat) (xs:List Nat) {i:Nat} (hi:i<xs.length):val B (xs.take (i+1))=val B (xs.take i)+B^i*xs[i]:=by
 rw [List.take_succ_eq_append_getElem hi,uw]
 simp [val,Nat.min_eq_left (Nat.le_of_lt hi)]
theorem ee.mono {B:Nat} {xs ys:List Nat} (h:ee B xs) (hs:∀y∈ys,y∈xs):ee B ys:=λy hy=>h y (hs y hy)
theorem ee.append {B:Nat} {xs ys:List Nat} (h:ee B xs) (k:ee B ys):ee B (xs++ys):=λy hy=>(mem_append.1 hy).elim (h y) (k y)
theorem ee.set {B:Nat} {xs:List Nat} (h:ee B xs) {d:Nat} (hd:d<B) (i:Nat):ee B (xs.set i d):=λy hy=>by
 rcases List.mem_or_eq_of_mem_set hy with h1 | h1
 ·exact h y h1
 ·rw [h1];exact hd
theorem ee.CE {B:Nat} (hB:0<B) (n:Nat):ee B (List.replicate n 0):=λy hy=>by
 rw [(List.mem_replicate.1 hy).2];exact hB
theorem Cl {B:Nat}:∀{xs:List Nat},ee B xs->val B xs<B^xs.length
 | [],_=>by simp [val]
 | x::xs,h=>by
  have h1:=h x (by simp)
  have ih:=Cl (xs:=xs) λy hy=>h y (by simp [hy])
  simp only [val,List.length_cons,Nat.pow_succ]
  have:B*(val B xs+1)<=B*B^xs.length:=Nat.mul_le_mul_left _ ih
  rw [Nat.mul_comm (B^xs.length)]
  grind
theorem dA.cons {B:Nat} {x:Nat} {xs:List Nat} (h:dA B (x::xs)):x<B/\dA B xs/\(xs=[]->x≠0):=by
 refine ⟨h.1 x (by simp),⟨λy hy=>h.1 y (by simp [hy]),?_⟩,?_⟩
 ·intro hl
  apply h.2
  cases xs with
  | nil=>simp at hl
  | cons y ys=>simpa [List.getLast?_cons_cons] using hl
 ·rintro rfl rfl
  exact h.2 rfl
theorem dA.zero {B:Nat} (hB:0<B):∀{xs:List Nat},dA B xs->val B xs=0->xs=[]
 | [],_,_=>rfl
 | x::xs,h,h0=>by
  obtain ⟨_,h2,h3⟩:=h.cons
  simp only [val] at h0
  have hx:x=0:=by omega
  have hv:B*val B xs=0:=by omega
  have:val B xs=0:=by
   rcases Nat.mul_eq_zero.1 hv with h | h
   ·omega
   ·exact h
  exact absurd hx (h3 (dA.zero hB h2 this))
theorem dA.unique {B:Nat} (hB:0<B):∀{xs ys:List Nat},dA B xs->dA B ys->val B xs=val B ys->xs=ys
 | [],ys,_,hy,h=>(dA.zero hB hy (by simpa [val] using h.symm)).symm
 | x::xs,[],hx,_,h=>dA.zero hB hx (by simpa [val] using h)
 | x::xs,y::ys,hx,hy,h=>by
  obtain ⟨a1,a2,_⟩:=hx.cons
  obtain ⟨b1,b2,_⟩:=hy.cons
  simp only [val] at h
  have e1:x=y:=by
   have:=congrArg (·%B) h
   simpa [Nat.add_mul_mod_self_left,Nat.mod_eq_of_lt a1,Nat.mod_eq_of_lt b1] using this
  subst e1
  have e2:val B xs=val B ys:=Nat.eq_of_mul_eq_mul_left hB (by omega)
  rw [dA.unique hB a2 b2 e2]
theorem dA.low {B:Nat} (hB:0<B):∀{xs:List Nat},dA B xs->xs≠[]->B^(xs.length-1)<=val B xs
 | [x],h,_=>by
  have:=h.cons.2.2 rfl
  simp [val]
  omega
 | x::y::xs,h,_=>by
  have ih:=dA.low hB h.cons.2.1 (by simp)
  simp only [List.length_cons,Nat.add_sub_cancel] at ih⊢
  rw [show val B (x::y::xs)=x+B*val B (y::xs) from rfl,Nat.pow_succ]
  have:B*B^xs.length<=B*val B (y::xs):=Nat.mul_le_mul_left _ ih
  rw [Nat.mul_comm (B^xs.length)]
  omega
theorem dA.len {B k:Nat} (hB:1<B) {xs:List Nat} (h:dA B xs) (hv:val B xs<B^k):xs.length<=k:=by
 by_cases hx:xs=[]
 ·subst hx;simp
 ·have h1:=dA.low (by omega) h hx
  have h2:B^(xs.length-1)<B^k:=Nat.lt_of_le_of_lt h1 hv
  have:=(Nat.pow_lt_pow_iff_right hB).1 h2
  have:0<xs.length:=List.length_pos_iff.2 hx
  omega
theorem dA.nil (B:Nat):dA B []:=⟨λx hx=>by simp at hx,by simp⟩
theorem dA.Hf {B:Nat} (hB:1<B) {xs ys:List Nat} (hx:dA B xs) (hy:dA B ys) (h:xs.length<ys.length):val B xs<val B ys:=by
 have h1:=Cl hx.1
 have h2:=dA.low (by omega) hy (by rintro rfl;simp at h)
 have h3:B^xs.length<=B^(ys.length-1):=Nat.pow_le_pow_right (by omega) (by omega)
 omega
theorem PS {B:Nat} {xs:List Nat} (h:ee B xs) (hl:∀h0:0<xs.length,xs[xs.length-1]≠0):dA B xs:=by
 refine ⟨h,λh0=>?_⟩
 rw [List.getLast?_eq_getElem?] at h0
 obtain ⟨h1,h2⟩:=ba h0
 exact hl (by omega) h2
end
section
def SK (k:IntKind):Prop:=k=.u16∨k=.i64
theorem SK.wrap {k:IntKind} (hk:SK k) {n:Int} (h0:0<=n) (h1:n<32768):k.wrap n=n:=by
 rcases hk with rfl | rfl
 ·have e:IntKind.wrap .u16 n=n%65536:=by simp [IntKind.wrap,IntKind.bits,IntKind.signed]
  rw [e];omega
 ·exact wrap64 (by omega) (by omega)
theorem SK.bits {k:IntKind} (hk:SK k):16<=k.bits:=by
 rcases hk with rfl | rfl <;> decide
theorem SK.toNat {k:IntKind} (hk:SK k) {a:Nat} (ha:a<1024):(BitVec.ofInt k.bits (a:Int)).toNat=a:=by
 have h:=hk.bits
 have h2:(2:Nat)^16<=2^k.bits:=Nat.pow_le_pow_right (by decide) h
 rw [BitVec.toNat_ofInt]
 have h3:((2^k.bits:Nat):Int)=2^k.bits:=by simp
 rw [Int.emod_eq_of_lt (by omega) (by omega)]
 omega
theorem orK {k:IntKind} (hk:SK k) {a b:Nat} (ha:a<1024) (hb:b<1024):ai .or (.int k (a:Int)) (.int k (b:Int))=some (.int k ((a ||| b:Nat):Int)):=by
 have e:ai .or (.int k (a:Int)) (.int k (b:Int))=some (Value.int k (k.wrap ((BitVec.ofInt k.bits (a:Int) ||| BitVec.ofInt k.bits (b:Int)).toNat:Int))):=by simp [ai,gU]
 rw [e,BitVec.toNat_or,hk.toNat ha,hk.toNat hb]
 have:a ||| b<2^10:=Nat.or_lt_two_pow ha hb
 rw [hk.wrap (by omega) (by omega)]
theorem M0 {k:IntKind} (hk:SK k) {a b:Nat} (ha:a<1024) (hb:b<1024):ai .and (.int k (a:Int)) (.int k (b:Int))=some (.int k ((a &&& b:Nat):Int)):=by
 have e:ai .and (.int k (a:Int)) (.int k (b:Int))=some (Value.int k (k.wrap ((BitVec.ofInt k.bits (a:Int) &&& BitVec.ofInt k.bits (b:Int)).toNat:Int))):=by simp [ai,gU]
 rw [e,BitVec.toNat_and,hk.toNat ha,hk.toNat hb]
 have:a &&& b<2^10:=Nat.and_lt_two_pow _ hb
 rw [hk.wrap (by omega) (by omega)]
theorem apm {k:IntKind} (hk:SK k) {s a:Nat} (ha:a<16):ai .shr (.int k (s:Int)) (I a)=some (.int k ((s / 2^a:Nat):Int)):=by
 have h:=hk.bits
 simp only [ai,mM]
 rw [if_neg (by omega)]
 have:min ((a:Int).toNat) k.bits=a:=by omega
 rw [this,Int.fdiv_eq_ediv_of_nonneg _ (Int.pow_nonneg (by decide))]
 rfl
theorem XI {k:IntKind} (hk:SK k) {a:Nat} (ha:a<11):ai .shl (.int k 1) (I a)=some (.int k ((2^a:Nat):Int)):=by
 have h:=hk.bits
 simp only [ai,mM]
 rw [if_neg (by omega)]
 have:min ((a:Int).toNat) k.bits=a:=by omega
 rw [this,Int.one_mul]
 have h2:(2:Nat)^a<=2^10:=Nat.pow_le_pow_right (by decide) (by omega)
 have h3:((2:Int)^a)=((2^a:Nat):Int):=by simp
 rw [h3,hk.wrap (Int.natCast_nonneg _) (by have:((2^a:Nat):Int)<=((1024:Nat):Int):=Int.ofNat_le.2 h2
                                           omega)]
end
end Go.Sim
namespace Go.Proofs.YtncaiogfjjepcaaGreatDoor
open Go.Sim
section
theorem uk:SK .i64:=.inr rfl
def Bb (l:List Int):Int:=if 12<l.length then 3 else if l.length=0∨¬(∀x∈l,1<=x/\x<=10) then 1 else 0
theorem Yv {v:Value} {l:List Int} {h:ae} {K:Value->ae->Prop} (hv:NS h v .i64 l) (hl:l.length<=1000) (hk:K (I (Bb l)) h):aw prog 28 [v] h K:=by
 refine f28 ?_
 unfold DA
 unfold Bb at hk
 simp only [hv.len,ag,fY,bL]
 refine ⟨λh1=>by rw [if_pos (by omega)] at hk;exact hk,λh1=>?_⟩
 rw [if_neg (by omega)] at hk
 simp only [ij,ag]
 rw [amz]
 by_cases h0:l.length=0
 ·simp only [cz (show (l.length:Int)=0 by omega),kK,Wx,Jj,Jk,fh,ag,fD]
  rw [if_pos (.inl h0)] at hk
  exact hk
 simp only [bN (show ¬(l.length:Int)=0 by omega),gK]
 refine Lo hv (by omega) hl ?_
 intro m hm ahF
 simp only [cb,ag,Wx,dO]
 by_cases Rb:m<1
 ·simp only [cz Rb,Jj,kK,Jk,fh,ag,fD]
  rw [if_pos (.inr λhc=>by have:=(hc m hm).1;omega)] at hk
  exact hk
 simp only [bN Rb,Jj,gK]
 refine Lp hv (by omega) hl ?_
 intro M hM agz
 simp only [fY,ag]
 rw [Jk]
 simp only [dO,ag,bL]
 refine ⟨λhb=>?_,λhb=>?_⟩
 ·rw [if_pos (.inr λhc=>by have:=(hc M hM).2;omega)] at hk;exact hk
 ·rw [if_neg] at hk
  ·exact hk
  ·rintro (h | h)
   ·exact h0 h
   ·exact h λx hx=>⟨by have:=ahF x hx;omega,by have:=agz x hx;omega⟩
end
section
theorem akr {ls:List Nat} (hl:ls.length<=12) (h0:0<ls.length) (aC:rO ls):Bb (ls.map λl:Nat=>(l:Int))=0:=by
 unfold Bb
 rw [List.length_map,if_neg (by omega),if_neg]
 rintro (h | h)
 ·omega
 ·refine h λx hx=>?_
  obtain ⟨l,hl,rfl⟩:=List.mem_map.1 hx
  have:=aC l hl
  omega
end
section
theorem alp {b:Nat} {g:ae} {v:Value} {xs:List Value} (own:cK b g 3 v xs):aZ v=some (I xs.length):=by
 rcases own with ⟨rfl,rfl⟩ | ⟨i,_,rfl,_⟩ <;> rfl
theorem mk0 (g:ae):bq 3 0 [(.int .i64 (0))] g []=some (sl 3 g.length 0 0,g++[.arr 3 []]):=rfl
end
end Go.Proofs.YtncaiogfjjepcaaGreatDoor
