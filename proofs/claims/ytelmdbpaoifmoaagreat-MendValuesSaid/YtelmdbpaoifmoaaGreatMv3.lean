/-
  Part 3 of the texts behind a statement of this seat: Sim30, Sim31, Sim22, ZEvH, Sim28, ZM1, Sp6, Sp13, Sp10, ZMe1, Sp14, Sp15, Sq16, Sq17, ZMe2, ZMe3, ZM4, Sq18, ZMe5, ZM2, Sq19, Sq20, ZMe6, ZLvO, Sim29, Sim32, ZLv1, ZK, Sim36, ZU, ZN1, ZN2.
-/
import Derived.Test.YtelmdbpaoifmoaaGreatProg
import Derived.KernelRfl
import Derived.Test.YtelmdbpaoifmoaaGreatRows
import Derived.Test.YtelmdbpaoifmoaaGreatMv2
open Bool (and_eq_true)
open Classical (byContradiction)
open Go.Proofs.Tryz (prog)
open Int (mul_assoc)
open List (append_assoc getD_eq_getElem?_getD getElem?_append_left getElem?_append_right getElem?_eq_getElem getElem_mem length_cons length_map mem_append mem_cons mem_filter mem_range)
open Nat (eq_of_beq_eq_true eq_of_testBit_eq le_refl pow_le_pow_right testBit_and testBit_or zero_le)
namespace Go.Sim
section
theorem EX.load {h h':ae} (k:EX h h') {agg:Bool} {n:Nat} {a v:Value} (hl:af agg n h a=some v):af agg n h' a=some v:=by
 unfold af at hl⊢
 split at hl
 ·rename_i i o
  cases hc:aW h i with
  | none=>rw [hc] at hl;cases hl
  | some xs=>rw [hc] at hl;rw [k.cells hc];exact hl
 ·cases hl
theorem ft (i:Nat) (h:i<4611686018427387904):IntKind.wrap .i64 ((i:Int)+1)=((i+1:Nat):Int):=by
 rw [wrap64 (by omega) (by omega)];omega
@[simp] theorem bZ (o i k : Nat) : aJ o (pt i k) = some (pt i (k + o)) := rfl
@[simp] theorem Ln (i k : Nat) : yC (pt i k) = some (pt i k) := rfl
def wY (ps:List (Int×Int)):List Value:=ps.flatMap λp=>[I p.1,I p.2]
theorem Me:∀{ps:List (Int×Int)} {k:Nat} {p:Int×Int},ps[k]?=some p->(wY ps)[2*k]?=some (I p.1)/\(wY ps)[2*k+1]?=some (I p.2)
 | [],k,p,h=>by simp at h
 | q::ps,0,p,h=>by simp at h;subst h;simp [wY]
 | q::ps,k+1,p,h=>by
  have:=Me (ps:=ps) (k:=k) (p:=p) (by simpa using h)
  rw [show 2*(k+1)=2*k+1+1 by omega]
  simpa [wY] using this
theorem aEJ (ps:List (Int×Int)):(wY ps).length=2*ps.length:=by
 induction ps with
 | nil=>rfl
 | cons p ps ih=>simp only [wY,List.flatMap_cons,List.length_append,length_cons,List.length_nil] at ih⊢;omega
structure PS (h:ae) (v:Value) (ps:List (Int×Int)):Prop where
 len:bk v=some (I ps.length)
 get:∀k (hk:k<ps.length),∃i o,aZ 2 v (I k)=some (pt i o)/\af false 1 h (pt i o)=some (I ps[k].1)/\af false 1 h (pt i (o+1))=some (I ps[k].2)/\
  af true 2 h (pt i o)=some (.agg #[I ps[k].1,I ps[k].2])
theorem PS.mono {h h':ae} {v:Value} {ps:List (Int×Int)} (k:EX h h') (p:PS h v ps):PS h' v ps:=
 ⟨p.len,λj hj=>let ⟨i,o,a,b,c,d⟩:=p.get j hj;⟨i,o,a,EX.load k b,EX.load k c,EX.load k d⟩⟩
theorem PS.sl {h:ae} {e:TypeId} {i:Nat} {ps:List (Int×Int)} (hc:aW h i=some (wY ps)):PS h (sl e i 0 ps.length) ps:=by
 refine ⟨rfl,λk hk=>⟨i,2*k,?_,?_,?_,?_⟩⟩
 ·have:(0:Int)<=(k:Int)/\(k:Int)<(ps.length:Int):=by omega
  simp [Go.Sim.sl,aZ,this,Nat.mul_comm]
 ·obtain ⟨g1,g2⟩:=Me (getElem?_eq_getElem hk)
  simp [af,hc,cP,g1]
 ·obtain ⟨g1,g2⟩:=Me (getElem?_eq_getElem hk)
  simp [af,hc,cP,g2]
 ·obtain ⟨g1,g2⟩:=Me (getElem?_eq_getElem hk)
  have hl:=aEJ ps
  have:((wY ps).drop (2*k)).take 2=[I ps[k].1,I ps[k].2]:=by
   apply List.ext_getElem?
   intro j
   rw [List.getElem?_take]
   match j with
   | 0=>simpa using g1
   | 1=>simpa using g2
   | j+2=>simp;omega
  have h2:2*k+2<=(wY ps).length:=by omega
  simp [af,hc,cP,this,h2]
def kK (b:Nat) (hx:ae) (e:TypeId) (v:Value) (xs:List Value):Prop:=
 (v=.slice none 0 0/\xs=[])∨(∃i,b<=i/\v=sl e i 0 xs.length/\hx[i]?=some (.arr e xs))
theorem aby {h0 hx:ae} {e:TypeId} {bytes:Nat} {v x z:Value} {xs:List Value} {K:Value->ae->Prop} (o:kK h0.length hx e v xs) (hex:EX h0 hx) (hb:(xs.length+1)*bytes<=140737488355328) (hm:xs.length+1<=maxLen)
  (h1:jq x=true) (h2:dU x=[x]) (hk:∀v' cE,EX h0 cE->kK h0.length cE e v' (xs++[x])->K v' cE):
  OH (dN e 1 [z] hx [(0,1,x)]) λa h2=>OH (eG e 1 bytes h2 v a) K:=by
 have e1:dN e 1 [z] hx [(0,1,x)]=some (sl e hx.length 0 1,hx++[.arr e [x]]):=by
  simp [dN,sT,je,h1,h2,setAt]
 rw [e1]
 simp only [aE]
 have e2:kF (hx++[.arr e [x]]) 1 (sl e hx.length 0 1)=some [x]:=by simp [kF,sl,aW]
 have e3:qm (sl e hx.length 0 1)=some 1:=rfl
 rcases o with ⟨rfl,rfl⟩ | ⟨i,hi,rfl,cA⟩
 ·refine HJ (v:=sl e (hx.length+1) 0 1) (h:=hx++[.arr e [x]]++[.arr e [x]]) ?_ (hk _ _ ((hex.push _).push _) (.inr ⟨hx.length+1,by have:=hex.1;omega,rfl,by simp⟩))
  have jZ:1*bytes<=140737488355328:=by simpa using hb
  have fq:1<=maxLen:=by simpa using hm
  simp only [eG,e2,e3]
  rw [if_neg (by omega),if_pos ⟨jZ,fq⟩]
  simp
 ·have aF:=(bz cA).1
  have hg:(hx++[.arr e [x]])[i]?=some (.arr e xs):=by rw [getElem?_append_left aF];exact cA
  refine HJ (v:=sl e (hx.length+1) 0 (xs.length+1)) (h:=(hx++[aq.arr e [x]]).set i aq.dead++[aq.arr e (xs++[x])]) ?_
   (hk _ _ (((hex.push _).set hi _).push _) (.inr ⟨hx.length+1,by have:=hex.1;omega,by simp,?_⟩))
  ·simp only [eG,e2,e3]
   simp only [sl,hg]
   rw [if_pos ⟨trivial,trivial,by simp,hb,hm⟩,if_neg (by omega)]
   simp
  ·rw [getElem?_append_right (by simp)]
   simp
theorem zH {b:Nat} {hx:ae} {e:TypeId} {v:Value} {l:List UInt8} (o:kK b hx e v (l.map cv)):oQ hx v=some (S l):=by
 have hm:∀l:List UInt8,(l.map cv).mapM BW=some l:=by
  intro l
  induction l with
  | nil=>rfl
  | cons c l ih=>simp [List.mapM_cons,BW,ih]
 rcases o with ⟨rfl,hx⟩ | ⟨i,hi,rfl,cA⟩
 ·have:l=[]:=by simpa using hx
  subst this
  rfl
 ·by_cases hl:l=[]
  ·subst hl
   simp [oQ,kF,sl]
  ·have hn:l.length≠0:=by simpa using hl
   have hn':¬(l.map cv).length=0:=by simpa using hl
   have ht:((l.map cv).drop 0).take ((l.map cv).length*1)=l.map cv:=by rw [List.drop_zero,Nat.mul_one,List.take_length]
   simp only [oQ,kF,sl,if_neg hn',aW,cA,Option.bind_some]
   rw [if_pos (by omega),ht,Option.bind_some,hm]
   rfl
structure SS (h:ae) (v:Value) (ls:List (List UInt8)):Prop where
 len:bk v=some (I ls.length)
 get:∀k (hk:k<ls.length),∃i o,aZ 1 v (I k)=some (pt i o)/\af false 1 h (pt i o)=some (S ls[k])
theorem SS.mono {h h':ae} {v:Value} {ls:List (List UInt8)} (k:EX h h') (p:SS h v ls):SS h' v ls:=
 ⟨p.len,λj hj=>let ⟨i,o,a,b⟩:=p.get j hj;⟨i,o,a,EX.load k b⟩⟩
theorem SS.sl {h:ae} {e:TypeId} {i:Nat} {ls:List (List UInt8)} (hc:aW h i=some (ls.map S)):SS h (sl e i 0 ls.length) ls:=by
 refine ⟨rfl,λk hk=>⟨i,k,?_,?_⟩⟩
 ·have:(0:Int)<=(k:Int)/\(k:Int)<(ls.length:Int):=by omega
  simp [Go.Sim.sl,aZ,this]
 ·simp [af,hc,cP,hk]
theorem min2 (a b:Int):wJ false [I a,I b]=some (I (min a b)):=by
 simp only [wJ,List.foldlM,max2,Bool.false_eq_true,if_false]
 have:(if b<a then b else a)=min a b:=by split <;> omega
 rw [this]
 rfl
theorem aD5 (a b:Int):wJ true [I a,I b]=some (I (max a b)):=by
 simp only [wJ,List.foldlM,max2,if_true]
 have:(if b>a then b else a)=max a b:=by split <;> omega
 rw [this]
 rfl
theorem tK {h:ae} {e:TypeId} {xs:List Value} {j:Nat} {v:Value} (hj:xs[j]?=some v):af false 1 (h++[.arr e xs]) (pt h.length j)=some v:=by
 simp [af,aW,cP,hj]
def CX (h h':ae):Prop:=∀d cs,aW h d=some cs->aW h' d=some cs
theorem CX.refl (h:ae):CX h h:=λ_ _ h=>h
theorem CX.load {h h':ae} (k:CX h h') {agg:Bool} {n:Nat} {a v:Value} (hl:af agg n h a=some v):af agg n h' a=some v:=by
 unfold af at hl⊢
 split at hl
 ·rename_i i o
  cases hc:aW h i with
  | none=>rw [hc] at hl;cases hl
  | some xs=>rw [hc] at hl;rw [k _ _ hc];exact hl
 ·cases hl
theorem NS.aEc {h h':ae} {v:Value} {k:IntKind} {ns:List Int} (e:CX h h') (p:NS h v k ns):NS h' v k ns:=
 ⟨p.len,λj hj=>let ⟨i,o,a,b⟩:=p.get j hj;⟨i,o,a,e.load b⟩,p.le⟩
def XM (im:Nat) (h h':ae):Prop:=h.length<=h'.length/\∀d,d<h.length->d≠im->h'[d]?=h[d]?
theorem XM.refl (im:Nat) (h:ae):XM im h h:=⟨le_refl _,λ_ _ _=>rfl⟩
theorem XM.trans {im:Nat} {a b c:ae} (h:XM im a b) (k:XM im b c):XM im a c:=⟨Nat.le_trans h.1 k.1,λd h1 h2=>(k.2 d (Nat.lt_of_lt_of_le h1 h.1) h2).trans (h.2 d h1 h2)⟩
theorem XM.ex {im:Nat} {a b:ae} (h:EX a b):XM im a b:=⟨h.1,λd h1 _=>h.2 d h1⟩
theorem XM.set {im:Nat} {a b:ae} (h:XM im a b) (o:aq):XM im a (b.set im o):=⟨by simpa using h.1,λd h1 h2=>by rw [List.getElem?_set_ne (by omega)];exact h.2 d h1 h2⟩
theorem XM.get {im:Nat} {a b:ae} (h:XM im a b) {d:Nat} {o:aq} (hd:d≠im) (hg:a[d]?=some o):b[d]?=some o:=by
 rw [h.2 d (bz hg).1 hd];exact hg
theorem ajm {h:ae} {d:Nat} {v:Value} (hc:aW h d=some [v]):af false 1 h (pt d 0)=some v:=by
 simp [af,hc,cP]
@[simp] theorem fv (a b : Value) : (#[a, b] : Array Value)[0]? = some a := rfl
@[simp] theorem fz (a b : Value) : (#[a, b] : Array Value)[1]? = some b := rfl
theorem br {h:ae} {o:aq}:(h++[o])[h.length]?=some o:=by simp
theorem aJA (xs:List Value) (o:Nat) (v:Value) (ho:o<xs.length):setAt xs o [v]=xs.set o v:=by
 unfold setAt
 rw [List.set_eq_take_append_cons_drop,if_pos ho]
 simp
theorem qx {h:ae} {i o:Nat} {e:TypeId} {xs:List Value} {v:Value} (hg:h[i]?=some (.arr e xs)) (ho:o<xs.length) (h1:jq v=true) (h2:dU v=[v]):aG 1 h (pt i o) v=some (undef,h.set i (.arr e (xs.set o v))):=by
 simp only [aG,wK,hg,h1,h2,aJA _ _ _ ho]
 rw [if_pos ⟨trivial,rfl,by omega⟩]
 rfl
theorem Qt {b:Nat} {hx:ae} {e:TypeId} {bytes:Nat} {v x z:Value} {xs:List Value} {K:Value->ae->Prop} (o:kK b hx e v xs) (hb:(xs.length+1)*bytes<=140737488355328) (hm:xs.length+1<=maxLen)
  (h1:jq x=true) (h2:dU x=[x]) (hk:∀h1 cE,h1=hx++[.arr e [x]]->cE.length=hx.length+2->(∀d,d<hx.length->(∀n,v≠sl e d 0 n)->cE[d]?=hx[d]?)->cE[hx.length+1]?=some (.arr e (xs++[x]))->OH (some (sl e (hx.length+1) 0 (xs.length+1),cE)) K):
  OH (dN e 1 [z] hx [(0,1,x)]) λa h2=>OH (eG e 1 bytes h2 v a) K:=by
 have e1:dN e 1 [z] hx [(0,1,x)]=some (sl e hx.length 0 1,hx++[.arr e [x]]):=by
  simp [dN,sT,je,h1,h2,setAt]
 rw [e1]
 simp only [aE]
 have e2:kF (hx++[.arr e [x]]) 1 (sl e hx.length 0 1)=some [x]:=by simp [kF,sl,aW]
 have e3:qm (sl e hx.length 0 1)=some 1:=rfl
 rcases o with ⟨rfl,rfl⟩ | ⟨i,hi,rfl,cA⟩
 ·have jZ:1*bytes<=140737488355328:=by simpa using hb
  have fq:1<=maxLen:=by simpa using hm
  have e4:eG e 1 bytes (hx++[.arr e [x]]) (.slice none 0 0) (sl e hx.length 0 1)=some (sl e (hx.length+1) 0 1,hx++[.arr e [x]]++[.arr e [x]]):=by
   simp only [eG,e2,e3]
   rw [if_neg (by omega),if_pos ⟨jZ,fq⟩]
   simp
  rw [e4]
  refine hk _ _ rfl (by simp) (λd hd _=>by rw [getElem?_append_left (by simp;omega),getElem?_append_left hd]) (by rw [getElem?_append_right (by simp)];simp)
 ·have aF:=(bz cA).1
  have hg:(hx++[.arr e [x]])[i]?=some (.arr e xs):=by rw [getElem?_append_left aF];exact cA
  have e4:eG e 1 bytes (hx++[.arr e [x]]) (sl e i 0 xs.length) (sl e hx.length 0 1)=some (sl e (hx.length+1) 0 (xs.length+1),(hx++[aq.arr e [x]]).set i aq.dead++[aq.arr e (xs++[x])]):=by
   simp only [eG,e2,e3]
   simp only [sl,hg]
   rw [if_pos ⟨trivial,trivial,by simp,hb,hm⟩,if_neg (by omega)]
   simp
  rw [e4]
  refine hk _ _ rfl (by simp) (λd hd bt=>?_) (by rw [getElem?_append_right (by simp)];simp)
  have nQ:i≠d:=by rintro rfl;exact bt _ rfl
  rw [getElem?_append_left (by simp;omega),List.getElem?_set_ne nQ,getElem?_append_left hd]
theorem XS {e e':TypeId} {i i' o o' n n':Nat} (h:sl e i o n=sl e' i' o' n'):i=i'/\n=n':=by
 unfold sl at h
 injection h with h1 h2
 injection h1 with h1
 injection h1 with h1
 exact ⟨h1,h2⟩
theorem kK.eX {b:Nat} {g g':ae} {e:TypeId} {v:Value} {xs:List Value} (o:kK b g e v xs) (h:∀d n,v=sl e d 0 n->b<=d->g'[d]?=g[d]?):kK b g' e v xs:=by
 rcases o with ⟨h1,h2⟩ | ⟨i,h1,h2,h3⟩
 ·exact .inl ⟨h1,h2⟩
 ·exact .inr ⟨i,h1,h2,by rw [h i _ h2 h1];exact h3⟩
theorem kK.lt {b:Nat} {g:ae} {e:TypeId} {v:Value} {xs:List Value} {d n:Nat} (o:kK b g e v xs) (h:v=sl e d 0 n):b<=d/\d<g.length/\g[d]?=some (.arr e xs):=by
 rcases o with ⟨h1,_⟩ | ⟨i,h1,h2,h3⟩
 ·rw [h1] at h;cases h
 ·rw [h2] at h
  obtain ⟨rfl,_⟩:=XS h
  exact ⟨h1,(bz h3).1,h3⟩
theorem ow {e:TypeId} {id n j:Nat} (hj:j<n):aZ 1 (sl e id 0 n) (I j)=some (pt id j):=by
 have:(0:Int)<=(j:Int)/\(j:Int)<(n:Int):=by omega
 simp [sl,aZ,this]
theorem cJ {h:ae} {i:Nat} {o o':aq} (hg:h[i]?=some o'):(h.set i o)[i]?=some o:=by
 rw [List.getElem?_set_self (bz hg).1]
theorem Ro {P:Program} {F:FuncId} {cap:Array Value} {args:List Value} {h:ae} {K:Value->ae->Prop} (hF:qI P F=true) (hc:ak P F (args++cap.toList) h K):vG P (.func (.func F) #[] cap) args h K:=by
 rw [uc] at hc
 exact ⟨⟨hF,by simpa using hc⟩⟩
theorem CX.trans {a b c:ae} (h:CX a b) (k:CX b c):CX a c:=λd cs hd=>k d cs (h d cs hd)
theorem CX.ju {g:ae} {im gh iJ:Nat} {k k':gD} {es iK:List (Nat×Value×Value)} (hg:g[im]?=some (.cw k gh es)):CX g (g.set im (.cw k' iJ iK)):=by
 intro d cs hd
 by_cases e:d=im
 ·subst e;simp [aW,hg] at hd
 ·unfold aW at hd⊢
  rw [List.getElem?_set_ne (λx=>e x.symm)]
  exact hd
end
section
theorem au2 {h:ae} {e:TypeId} {bm bytes b m:Nat} {v:Value} {cs:List Value} (hb:h[b]?=some (.arr e [])) (hc:kF h bm v=some cs) (hl:qm v=some m) (pD:m=0->cs=[]) (h1:m*bytes<=140737488355328) (h2:m<=maxLen):
  ∃i h',eG e bm bytes h (sl e b 0 0) v=some (sl e i 0 m,h')/\(i=b∨i=h.length)/\XM b h h'/\h'[i]?=some (.arr e cs):=by
 have aF:=(bz hb).1
 simp only [eG,hc,hl]
 simp only [sl,hb]
 by_cases h0:m=0
 ·subst h0
  refine ⟨b,h,?_,.inl rfl,XM.refl _ _,by rw [pD rfl];exact hb⟩
  simp
 ·refine ⟨h.length,h.set b .dead++[.arr e cs],?_,.inr rfl,((XM.refl b h).set _).trans (XM.ex (EX.append _ _)),by rw [getElem?_append_right (by simp)];simp⟩
  rw [if_pos (by simpa using ⟨h1,h2⟩),if_neg h0]
  simp
theorem NS.arr {h:ae} {e:TypeId} {i:Nat} {k:IntKind} {ns:List Int} (hg:h[i]?=some (.arr e (ns.map (Value.int k)))) (hl:ns.length<=maxLen):NS h (Go.Sim.sl e i 0 ns.length) k ns:=NS.sl (.inr (by simp [aW,hg])) hl
end
section
abbrev Hc:=Option (Exit×(Nat->Value)×ae)
abbrev lT:=Fn->List Value->ae->Option (Value×ae)
def Na:Value->Value->Bool
 | .int k a,.int k' b=>decide (k=k')&&decide (a=b)
 | .bool a,.bool b=>a==b
 | .string s,.string t=>decide (bytes s=bytes t)
 | .pointer (some ⟨i,o,none⟩),.pointer (some ⟨j,p,none⟩)=>Nat.beq i j&&Nat.beq o p
 | .slice none a b,.slice none c d=>Nat.beq a c&&Nat.beq b d
 | .slice (some ⟨i,o,some e⟩) a b,.slice (some ⟨j,p,some e'⟩) c d=>Nat.beq i j&&Nat.beq o p&&Nat.beq e e'&&Nat.beq a c&&Nat.beq b d
 | _,_=>false
theorem aqO {a b:Value} (h:Na a b=true):a=b:=by
 unfold Na at h
 split at h
 ·simp at h;rw [h.1,h.2]
 ·simp at h;rw [h]
 ·rename_i s t
  simp at h
  have:=CS s
  rw [h,CS] at this
  rw [this]
 ·simp only [and_eq_true] at h
  rw [eq_of_beq_eq_true h.1,eq_of_beq_eq_true h.2]
 ·simp only [and_eq_true] at h
  rw [eq_of_beq_eq_true h.1,eq_of_beq_eq_true h.2]
 ·simp only [and_eq_true] at h
  obtain ⟨⟨⟨⟨h1,h2⟩,h3⟩,h4⟩,h5⟩:=h
  rw [eq_of_beq_eq_true h1,eq_of_beq_eq_true h2,eq_of_beq_eq_true h3,eq_of_beq_eq_true h4,eq_of_beq_eq_true h5]
 ·cases h
def yO:List Value->List Value->Bool
 | [],[]=>true
 | x::xs,y::ys=>Na x y&&yO xs ys
 | _,_=>false
theorem Dp:∀{xs ys:List Value},yO xs ys=true->xs=ys
 | [],[],_=>rfl
 | x::xs,y::ys,h=>by
  simp only [yO,and_eq_true] at h
  rw [aqO h.1,Dp h.2]
 | [],_::_,h=>by cases h
 | _::_,[],h=>by cases h
def M9:Value->Value->Bool
 | .agg xs,.agg ys=>yO xs.toList ys.toList
 | a,b=>Na a b
theorem aqP {a b:Value} (h:M9 a b=true):a=b:=by
 unfold M9 at h
 split at h
 ·rw [Array.ext' (Dp h)]
 ·exact aqO h
def vg (P:Program) (call:lT) (io:iG) (f:Nat->Value) (h:ae):Option (Value×ae):=
 match io with
 | .p o=>match j7 o (ev f) with | some v=>some (v,h) | none=>none
 | .l o=>match gr o (ev f) h with | some v=>some (v,h) | none=>none
 | .e o=>gS o (ev f) h
 | .call g args=>call (.func g) (args.map (ev f)) h
 | .lV x args=>
  match ev f x with
  | .func (.func g) first cap=>if qI P g=true then call (.func g) (first.toList++args.map (ev f)++cap.toList) h else none
  | .func (.yield i) first cap=>if first.size=0/\cap.size=0 then call (.yield i) (args.map (ev f)) h else none
  | _=>none
structure sK (P:Program) (call:lT):Prop where
 fn:∀F args h v h',call (.func F) args h=some (v,h')->ue P F args h v h'
 yi:∀i args h v h',call (.yield i) args h=some (v,h')->NM P i args h v h'
section
variable {P : Program} {call : lT} (HC : sK P call)
include HC
theorem FX {io:iG} {f:Nat->Value} {h h':ae} {v:Value} {K:Value->ae->Prop} (he:vg P call io f h=some (v,h')) (hk:K v h'):dE P io f h K:=by
 cases io with
 | p o=>
  simp only [vg] at he
  split at he
  ·rename_i u hu
   simp at he
   obtain ⟨rfl,rfl⟩:=he
   simp [dE,gv,hu,hk]
  ·cases he
 | l o=>
  simp only [vg] at he
  split at he
  ·rename_i u hu
   simp at he
   obtain ⟨rfl,rfl⟩:=he
   simp [dE,gv,hu,hk]
  ·cases he
 | e o=>
  simp only [vg] at he
  simp [dE,oc,he,hk]
 | call g args=>exact ⟨v,h',HC.fn _ _ _ _ _ he,hk⟩
 | lV x args=>
  simp only [vg] at he
  simp only [dE,uo]
  split at he
  ·rename_i g first cap hx
   rw [hx]
   split at he
   ·rename_i nB
    exact ⟨nB,v,h',HC.fn _ _ _ _ _ he,hk⟩
   ·cases he
  ·rename_i i first cap hx
   rw [hx]
   split at he
   ·rename_i hs
    exact ⟨⟨Array.eq_empty_of_size_eq_zero hs.1,Array.eq_empty_of_size_eq_zero hs.2⟩,v,h',HC.yi _ _ _ _ _ he,hk⟩
   ·cases he
  ·cases he
end
def Ce (P:Program) (call:lT):List jM->(Nat->Value)->ae->Option ((Nat->Value)×ae)
 | [],f,h=>some (f,h)
 | o::os,f,h=>match vg P call o.op f h with | some (v,h')=>Ce P call os (dS f o.dst v) h' | none=>none
def Vk (P:Program) (call:lT) (g:Option (Nat×Bool)) (l:List jM) (f:Nat->Value) (h:ae):Option ((Nat->Value)×ae):=
 match g with
 | none=>Ce P call l f h
 | some (s,b)=>match f s with
  | .bool c=>if (c==b)=true then Ce P call l f h else some (Dn l f,h)
  | .complex _ _ _=>none
  | _=>some (Dn l f,h)
def Gp (pre:Nat) (lo:pP) (f:Nat->Value) (v:Value):List (Nat×ae)->Bool
 | []=>true
 | (e,H)::r=>if pre.testBit e=true then Gp pre lo f v r else (match gr lo (ev f) H with | some u=>M9 u v | none=>false)&&Gp pre lo f v r
def zZ (pre:Nat) (H:ae):fx->Bool
 | []=>true
 | (j,lo,f,v)::r=>if pre.testBit j=true then zZ pre H r else (match gr lo (ev f) H with | some u=>M9 u v | none=>false)&&zZ pre H r
theorem W2 {pre:Nat} {lo:pP} {f:Nat->Value} {v:Value}:∀{l:List (Nat×ae)},Gp pre lo f v l=true->xP pre lo f v l
 | [],_=>trivial
 | (e,H)::r,h=>by
  simp only [Gp] at h
  simp only [xP]
  split at h
  ·rename_i hb;rw [if_pos hb];exact W2 h
  ·rename_i hb
   rw [if_neg hb]
   simp only [and_eq_true] at h
   refine ⟨?_,W2 h.2⟩
   have h1:=h.1
   split at h1
   ·rename_i u hu;rw [hu,aqP h1]
   ·cases h1
theorem Aa {pre:Nat} {H:ae}:∀{l:fx},zZ pre H l=true->mz pre H l
 | [],_=>trivial
 | (j,lo,f,v)::r,h=>by
  simp only [zZ] at h
  simp only [mz]
  split at h
  ·rename_i hb;rw [if_pos hb];exact Aa h
  ·rename_i hb
   rw [if_neg hb]
   simp only [and_eq_true] at h
   refine ⟨?_,Aa h.2⟩
   have h1:=h.1
   split at h1
   ·rename_i u hu;rw [hu,aqP h1]
   ·cases h1
abbrev ZG:=Option (List (Nat×ae)×fx×(Nat->Value)×ae)
def vX (P:Program) (call:lT):List kJ->Nat->List (Nat×ae)->fx->(Nat->Value)->ae->ZG
 | [],_,aR,aM,f,h=>some (aR,aM,f,h)
 | o::os,j,aR,aM,f,h=>
  match vg P call o.op f h with
  | some (v,h')=>
   match o.op with
   | .p _=>vX P call os (j+1) aR aM (dS f o.dst v) h'
   | .l lo=>if Gp o.pre lo f v aR=true then vX P call os (j+1) aR (aM++[(j,lo,f,v)]) (dS f o.dst v) h' else none
   | .e (.fl _)=>
    match dh h' v with
    | some u=>if zZ o.pre h' aM=true then vX P call os (j+1) (aR++[(j,h)]) (aM++[(j,.obj (.const v),f,u)]) (dS f o.dst v) h' else none
    | none=>none
   | _=>if zZ o.pre h' aM=true then vX P call os (j+1) (aR++[(j,h)]) aM (dS f o.dst v) h' else none
  | none=>none
def Cd:List kJ->Nat->List (Nat×ae)->fx->(Nat->Value)->ae->ZG
 | [],_,aR,aM,f,h=>some (aR,aM,f,h)
 | o::os,j,aR,aM,f,h=>
  match o.op.dR with
  | false=>Cd os (j+1) aR aM (dS f o.dst undef) h
  | true=>if zZ o.pre h aM=true then Cd os (j+1) (aR++[(j,h)]) aM (dS f o.dst undef) h else none
def Ac (P:Program) (call:lT):List (Option (Nat×Bool)×List kJ)->Nat->List (Nat×ae)->fx->(Nat->Value)->ae->Option ((Nat->Value)×ae)
 | [],_,_,_,f,h=>some (f,h)
 | (none,l)::gs,j,aR,aM,f,h=>
  match vX P call l j aR aM f h with
  | some (aR,aM,f,h)=>Ac P call gs (j+l.length) aR aM f h
  | none=>none
 | (some (s,b),l)::gs,j,aR,aM,f,h=>
  match f s with
  | .bool c=>
   match (if (c==b)=true then vX P call l j aR aM f h else Cd l j aR aM f h) with
   | some (aR,aM,f,h)=>Ac P call gs (j+l.length) aR aM f h
   | none=>none
  | _=>none
section
variable {P : Program} {call : lT} (HC : sK P call)
include HC in
theorem SF:∀{l:List jM} {f f':Nat->Value} {h h':ae} {K:(Nat->Value)->ae->Prop},Ce P call l f h=some (f',h')->K f' h'->yc P l K f h
 | [],f,f',h,h',K,he,hk=>by simp [Ce] at he;obtain ⟨rfl,rfl⟩:=he;exact hk
 | o::os,f,f',h,h',K,he,hk=>by
  simp only [Ce] at he
  split at he
  ·rename_i v h1 ho
   exact FX HC ho (SF he hk)
  ·cases he
include HC in
theorem aEy {g:Option (Nat×Bool)} {l:List jM} {f f':Nat->Value} {h h':ae} {K:(Nat->Value)->ae->Prop} (he:Vk P call g l f h=some (f',h')) (hk:K f' h'):tM P g l K f h:=by
 cases g with
 | none=>exact SF HC he hk
 | some sb=>
  obtain ⟨s,b⟩:=sb
  simp only [Vk] at he
  simp only [tM,lE]
  split at he
  ·rename_i c hc
   rw [hc]
   simp only
   split at he
   ·rename_i hb;rw [if_pos hb];exact SF HC he hk
   ·rename_i hb;rw [if_neg hb];simp at he;obtain ⟨rfl,rfl⟩:=he;exact hk
  ·cases he
  ·rename_i h1 h2
   simp at he
   obtain ⟨rfl,rfl⟩:=he
   split
   ·rename_i c hc;exact absurd hc (h1 c)
   ·rename_i a b c hc;exact absurd hc (h2 a b c)
   ·exact hk
include HC in
theorem yb:∀{l:List kJ} {j:Nat} {aR pY:List (Nat×ae)} {aM pK:fx} {f f':Nat->Value} {h h':ae} {K:List (Nat×ae)->fx->(Nat->Value)->ae->Prop},
  vX P call l j aR aM f h=some (pY,pK,f',h')->K pY pK f' h'->pz P l j aR aM K f h
 | [],j,aR,pY,aM,pK,f,f',h,h',K,he,hk=>by simp [vX] at he;obtain ⟨rfl,rfl,rfl,rfl⟩:=he;exact hk
 | o::os,j,aR,pY,aM,pK,f,f',h,h',K,he,hk=>by
  simp only [vX] at he
  simp only [pz]
  split at he
  ·rename_i v h1 ho
   cases dB:o.op with
   | p po=>
    rw [dB] at ho he
    simp only at he
    have:=FX (K:=λv h'=>pz P os (j+1) aR aM K (dS f o.dst v) h') HC ho (yb he hk)
    simp only [lX]
    simp only [dE] at this
    simp only [vg] at ho
    split at ho
    ·rename_i u hu
     simp at ho
     obtain ⟨rfl,rfl⟩:=ho
     exact this
    ·cases ho
   | l lo=>
    rw [dB] at ho he
    simp only at he
    split at he
    ·rename_i hp
     simp only [vg] at ho
     split at ho
     ·rename_i u hu
      simp at ho
      obtain ⟨rfl,rfl⟩:=ho
      simp only [lX,gv,hu]
      exact ⟨W2 hp,yb he hk⟩
     ·cases ho
    ·cases he
   | e eo=>
    cases eo with
    | fl a=>
     rw [dB] at ho he
     simp only at he
     split at he
     ·rename_i u hu
      split at he
      ·rename_i hp
       simp only [vg] at ho
       simp only [lX,ho,oc,hu,gv]
       exact ⟨Aa hp,yb he hk⟩
      ·cases he
     ·cases he
    | _=>
    rw [dB] at ho he
    simp only at he
    split at he
    ·rename_i hp
     exact FX (io:=.e _) (K:=λv h'=>mz o.pre h' aM/\pz P os (j+1) (aR++[(j,h)]) aM K (dS f o.dst v) h') HC ho ⟨Aa hp,yb he hk⟩
    ·cases he
   | call g args=>
    rw [dB] at ho he
    simp only at he
    split at he
    ·rename_i hp
     exact FX (io:=.call g args) (K:=λv h'=>mz o.pre h' aM/\pz P os (j+1) (aR++[(j,h)]) aM K (dS f o.dst v) h') HC ho ⟨Aa hp,yb he hk⟩
    ·cases he
   | lV x args=>
    rw [dB] at ho he
    simp only at he
    split at he
    ·rename_i hp
     exact FX (io:=.lV x args) (K:=λv h'=>mz o.pre h' aM/\pz P os (j+1) (aR++[(j,h)]) aM K (dS f o.dst v) h') HC ho ⟨Aa hp,yb he hk⟩
    ·cases he
  ·cases he
theorem Sz:∀{l:List kJ} {j:Nat} {aR pY:List (Nat×ae)} {aM pK:fx} {f f':Nat->Value} {h h':ae} {K:List (Nat×ae)->fx->(Nat->Value)->ae->Prop},
  Cd l j aR aM f h=some (pY,pK,f',h')->K pY pK f' h'->vY l j aR aM K f h
 | [],j,aR,pY,aM,pK,f,f',h,h',K,he,hk=>by simp [Cd] at he;obtain ⟨rfl,rfl,rfl,rfl⟩:=he;exact hk
 | o::os,j,aR,pY,aM,pK,f,f',h,h',K,he,hk=>by
  simp only [Cd] at he
  simp only [vY,xX]
  cases ho:o.op.dR with
  | false=>rw [ho] at he;exact Sz he hk
  | true=>
   rw [ho] at he
   simp only at he
   split at he
   ·rename_i hp;exact ⟨Aa hp,Sz he hk⟩
   ·cases he
include HC in
theorem JZ:∀{gs:List (Option (Nat×Bool)×List kJ)} {j:Nat} {aR:List (Nat×ae)} {aM:fx} {f f':Nat->Value} {h h':ae} {K:(Nat->Value)->ae->Prop},
  Ac P call gs j aR aM f h=some (f',h')->K f' h'->oF P gs j aR aM K f h
 | [],j,aR,aM,f,f',h,h',K,he,hk=>by simp [Ac] at he;obtain ⟨rfl,rfl⟩:=he;exact hk
 | (none,l)::gs,j,aR,aM,f,f',h,h',K,he,hk=>by
  simp only [Ac] at he
  simp only [oF]
  split at he
  ·rename_i hs ls f1 h1 hr
   exact yb HC hr (JZ he hk)
  ·cases he
 | (some (s,b),l)::gs,j,aR,aM,f,f',h,h',K,he,hk=>by
  simp only [Ac] at he
  simp only [oF,lE]
  split at he
  ·rename_i c hc
   rw [hc]
   simp only
   split at he
   ·rename_i hs ls f1 h1 hr
    split at hr
    ·rename_i hb;rw [if_pos hb];exact yb HC hr (JZ he hk)
    ·rename_i hb;rw [if_neg hb];exact Sz hr (JZ he hk)
   ·cases he
  ·cases he
end
def A2 (body:(Nat->Value)->ae->Hc) (ls:List Nat):Nat->List Value->ae->Hc
 | 0,_,_=>none
 | n+1,xs,h=>match body (kS ls xs) h with
  | some (.normal,f',h')=>A2 body ls n (ls.map f') h'
  | r=>r
def Up (h:ae) (i:Nat):Bool:=match h[i]? with | some (.loop _ _ _)=>true | _=>false
def KS (h:ae) (i:Nat):Bool:=match h[i]? with | some .dead=>true | _=>false
noncomputable def mB (P:Program) (call:lT) (n:Nat) (c:fG):(Nat->Value)->ae->Hc:=
 fG.rec (motive:=λ_=>(Nat->Value)->ae->Hc)
  (λf h=>some (.normal,f,h))
  (λl f h=>match Ac P call l 0 [] [] f h with | some (f',h')=>some (.normal,f',h') | none=>none)
  (λg l f h=>match Vk P call g l f h with | some (f',h')=>some (.normal,f',h') | none=>none)
  (λ_ _ ea eb f h=>match ea f h with | some (.normal,f',h')=>eb f' h' | r=>r)
  (λls _ ec f h=>ec (kS ls (ls.map f)) h)
  (λc _ _ ea eb f h=>match ev f c with | .bool true=>ea f h | .bool false=>eb f h | _=>none)
  (λid _ ec f h=>match ec f h with | some (.exit i,f',h')=>if i=id then some (.normal,f',h') else some (.exit i,f',h') | r=>r)
  (λks ls _ ec f h=>match ks with | []=>A2 ec ls n (ls.map f) h | _=>none)
  (λid f h=>some (.exit id,f,h))
  (λf h=>some (.ret,f,h))
  (λg ls c f h=>match ev f g with
   | .func (.func F) first cap=>
    if qI P F=true then
     match call (.func F) (first.toList++[.func (.yield h.length) #[] #[]]++cap.toList) (h++[.loop c ls (ls.map f)]) with
     | some (_,h')=>if Up h' h.length=true then some (.normal,f,h'.set h.length .dead) else none
     | none=>none
    else none
   | _=>none) c
theorem aDP {p:Nat->Prop}:∀n,p n->∃m,p m/\∀k,p k->m<=k:=by
 intro n
 induction n using Nat.strongRecOn with
 | _ n ih=>
  intro hn
  by_cases h:∃m,m<n/\p m
  ·obtain ⟨m,h1,h2⟩:=h;exact ih m h1 h2
  ·exact ⟨n,hn,λk hk=>Nat.le_of_not_lt λaF=>h ⟨k,aF,hk⟩⟩
theorem aCO {h:ae} {i:Nat} (hl:Up h i=true):∃c ls vs,h[i]?=some (.loop c ls vs):=by
 unfold Up at hl
 split at hl
 ·rename_i c ls vs hh;exact ⟨c,ls,vs,hh⟩
 ·cases hl
theorem aiN {h:ae} {i:Nat} (hl:KS h i=true):h[i]?=some .dead:=by
 unfold KS at hl
 split at hl
 ·assumption
 ·cases hl
theorem R8 {P:Program} {call:lT} (HC:sK P call) {n:Nat} {c:fG}:∀{f f':Nat->Value} {h h':ae} {e:Exit} {K:ar},mB P call n c f h=some (e,f',h')->K e f' h'->jH P c K f h:=by
 induction c with
 | skip=>intro f f' h h' e K he hk;simp [mB] at he;obtain ⟨rfl,rfl,rfl⟩:=he;exact hk
 | JH l=>
  intro f f' h h' e K he hk
  simp only [mB] at he
  split at he
  ·rename_i f1 h1 hg
   simp at he
   obtain ⟨rfl,rfl,rfl⟩:=he
   exact JZ HC hg hk
  ·cases he
 | ops g l=>
  intro f f' h h' e K he hk
  simp only [mB] at he
  split at he
  ·rename_i f1 h1 hg
   simp at he
   obtain ⟨rfl,rfl,rfl⟩:=he
   exact aEy HC hg hk
  ·cases he
 | seq a b so tG=>
  intro f f' h h' e K he hk
  have gn:(match mB P call n a f h with | some (.normal,f',h')=>mB P call n b f' h' | r=>r)=some (e,f',h'):=he
  show jH P a (aH (jH P b K) K) f h
  split at gn
  ·rename_i f1 h1 h2
   exact so h2 (tG gn hk)
  ·rename_i h1
   refine so gn ?_
   cases e <;> first | exact hk | exact absurd gn (h1 _ _)
 | cut ls c ih=>intro f f' h h' e K he hk;exact ih (K:=K) he hk
 | cond c a b so tG=>
  intro f f' h h' e K he hk
  have gn:(match ev f c with | .bool true=>mB P call n a f h | .bool false=>mB P call n b f h | _=>none)=some (e,f',h'):=he
  rw [aiT]
  split at gn
  ·rename_i hc;rw [hc];exact so gn hk
  ·rename_i hc;rw [hc];exact tG gn hk
  ·cases gn
 | block id c ih=>
  intro f f' h h' e K he hk
  have gn:(match mB P call n c f h with | some (.exit i,f',h')=>if i=id then some (.normal,f',h') else some (.exit i,f',h') | r=>r)=some (e,f',h'):=he
  show jH P c (bH id K) f h
  split at gn
  ·rename_i i f1 h1 h2
   refine ih h2 ?_
   simp only [bH]
   split at gn
   ·rename_i jC;simp at gn;obtain ⟨rfl,rfl,rfl⟩:=gn;rw [if_pos jC];exact hk
   ·rename_i jC;simp at gn;obtain ⟨rfl,rfl,rfl⟩:=gn;rw [if_neg jC];exact hk
  ·rename_i h1
   refine ih gn ?_
   cases e with
   | exit i=>exact absurd gn (h1 _ _ _)
   | _=>exact hk
 | loop ks ls c ih=>
  intro f f' h h' e K he hk
  cases ks with
  | cons k ks=>cases he
  | nil=>
   have gn:A2 (mB P call n c) ls n (ls.map f) h=some (e,f',h'):=he
   show A3 (ls.map f) h λL xs hx=>jH P c (aH (λf' aX=>([]:List Nat).map f'=[].map f/\L (ls.map f') aX) K) (kS ([]++ls) (([]:List Nat).map f++xs)) hx
   let J:List Value->ae->Prop:=λys hy=>∃m,A2 (mB P call n c) ls m ys hy=some (e,f',h')
   have least:∀ys hy,J ys hy->∃m,A2 (mB P call n c) ls m ys hy=some (e,f',h')/\∀k,A2 (mB P call n c) ls k ys hy=some (e,f',h')->m<=k:=λys hy ⟨m,hm⟩=>aDP m hm
   classical
   let μ:List Value->ae->Nat:=λys hy=>if hJ:J ys hy then Classical.choose (least ys hy hJ) else 0
   refine ⟨J,μ,⟨n,gn⟩,?_⟩
   intro xs hx hJ
   have Fe:=Classical.choose_spec (least xs hx hJ)
   have hμ:μ xs hx=Classical.choose (least xs hx hJ):=dif_pos hJ
   rw [<-hμ] at Fe
   obtain ⟨h1,h2⟩:=Fe
   generalize μ xs hx=m at h1 h2
   cases m with
   | zero=>cases h1
   | succ m=>
    simp only [A2] at h1
    simp only [List.map_nil,List.nil_append]
    split at h1
    ·rename_i f1 g1 hb
     refine ih hb ?_
     refine ⟨trivial,⟨m,h1⟩,?_⟩
     have Ci:J (ls.map f1) g1:=⟨m,h1⟩
     have eD:=Classical.choose_spec (least _ _ Ci)
     have aCu:μ (ls.map f1) g1=Classical.choose (least _ _ Ci):=dif_pos Ci
     rw [aCu]
     exact Nat.lt_succ_of_le (eD.2 m h1)
    ·rename_i hn
     refine ih h1 ?_
     cases e with
     | normal=>exact absurd h1 (hn _ _)
     | _=>exact hk
 | exit id=>intro f f' h h' e K he hk;simp [mB] at he;obtain ⟨rfl,rfl,rfl⟩:=he;exact hk
 | ret=>intro f f' h h' e K he hk;simp [mB] at he;obtain ⟨rfl,rfl,rfl⟩:=he;exact hk
 | range g ls c=>
  intro f f' h h' e K he hk
  simp only [mB] at he
  show vk P (ev f g) ls (ls.map f) c h (K .normal f)
  unfold vk
  split at he
  ·rename_i F first cap hg
   rw [hg]
   split at he
   ·rename_i nB
    split at he
    ·rename_i v h1 hc
     split at he
     ·rename_i hl
      simp at he
      obtain ⟨rfl,rfl,rfl⟩:=he
      exact ⟨nB,v,h1,HC.fn _ _ _ _ _ hc,aCO hl,hk⟩
     ·cases he
    ·cases he
   ·cases he
  ·cases he
theorem Mz:∀{rs:List kX} {f:Nat->Value} {h:ae} {vs:List Value} {k:List Value->Prop},pI rs f h=some vs->k vs->xc rs f h k
 | [],f,h,vs,k,he,hk=>by simp [pI] at he;subst he;exact hk
 | .tmp t::rs,f,h,vs,k,he,hk=>by
  simp only [pI,yF] at he
  split at he
  ·rename_i v km h1 h2
   simp only [Option.some.injEq] at h1 he
   subst h1
   subst he
   exact Mz (rs:=rs) h2 hk
  ·cases he
 | .cell agg n a::rs,f,h,vs,k,he,hk=>by
  simp only [pI,yF] at he
  split at he
  ·rename_i v km h1 h2
   simp at he
   subst he
   simp only [xc,gv,h1]
   exact Mz h2 hk
  ·cases he
end
end Go.Sim
namespace Go.Proofs.YtelmdbpaoifmoaaGreat
open Go.Sim
section
def evH:FuncId->Hints
 | 12=>[[],[],[],[],[1,7,25],[1,7,25,32],[],[],[],[],[],[],[],[],[]]
 | 14=>[[],[],[],[],[],[],[],[3,4,5,6,8,9,10,11,12,46],[4,5,6,8,9,10,11,12,46,48],[4,5,6,8,9,10,11,12,50],[5,6,8,9,10,11,12,50,52],[5,6,8,9,10,11,12,54],[6,8,9,10,11,12,54,58],[6,8,9,10,11,12,60],[8,9,10,11,12,60,62],[8,9,10,11,12,64],[9,10,11,12,64,66],[9,10,11,12,68],[10,11,12,68,70],[10,11,12,72],[11,12,72,74],[11,12,76],[12,76,78],[12,80],[80,82],[]]
 | 18=>[[],[],[],[],[],[],[]]
 | 19=>[[],[],[],[],[],[],[],[],[],[0,7,9,10,11],[],[],[],[],[],[0,7,9,10,11,12,32,33,34],[],[],[],[],[],[],[9,10],[]]
 | 31=>[[],[],[],[],[],[],[],[],[8,20,21,22],[],[],[],[],[8],[]]
 | 35=>[[],[],[],[],[],[],[0,1,5],[],[],[],[],[],[],[]]
 | 43=>[[],[],[],[],[0,4,11,12,13],[],[],[],[],[],[],[],[],[0,4],[0,4,38],[4,38,41],[],[],[],[],[],[4,43,44,45],[],[],[],[4,10,43,44,45,53],[4,10,43,44,45,53,57],[4,10,43,44,45,59],[4,10,43,44,45,59,63],[4,10,43,44,45,65],[4,10,43,44,45,65,69],[4,10,43,44,45,71],[4,10,43,44,45,71,81],[],[],[],[4,10,43,44,45,86],[4,43,44,45,86,91],[],[],[],[4],[]]
 | 44=>[[],[],[],[],[],[1,2,4,6,7,8,9,10],[],[],[],[],[],[1,2,4,6,7,8,9,10,11,52],[1,2,4,6,7,8,9,10,11,52,56],[],[1,2,4,6,7,8,9,10],[4,6,7],[]]
 | 45=>[[],[],[],[],[],[],[1,4],[],[],[],[],[],[],[],[]]
 | 49=>[[],[0,1,9],[9,13],[]]
 | 56=>[[],[]]
 | 57=>[[],[],[],[],[],[],[],[],[0,2,3,5,8,11,31,32,33],[],[],[],[],[0,2,3,5,8,11,31,32,33],[0,2,3,5,8,11],[],[],[],[0,2,3,5,8,11,14,15,50,51,52],[],[],[],[0,2,3,5,8,11,14,15,16,17,50,51,52,61],[0,2,3,5,8,11,14,15,16,17,50,51,52,61,66],[],[],[],[],[],[],[],[],[0,2,3,5,8,11,14,15,21,50,51,52],[0,2,3,5,8,11,14,15,21,50,51,52,119],[0,2,3,5,8,11,14,15,21,50,51,52,119,123],[],[0,2,3,5,8,11,14,15,50,51,52],[3,5,8,14],[],[]]
 | 58=>[[],[],[],[],[2,3,7,8],[],[],[],[],[2,3],[]]
 | 59=>[[],[],[0,1,6,18],[0,1,6,18,20],[0,1,6,22],[0,1,6,22,25],[],[],[],[],[],[],[1,6,7,32,33,34],[],[],[],[1,6,7,9,32,33,34,41],[1,6,7,9,32,33,34,41,44],[1,6,7,9,32,33,34,46],[1,6,7,9,32,33,34,46,49],[1,6,7,9,32,33,34,51],[1,6,7,32,33,34,51,54],[],[],[],[1,6,7],[],[],[6,7,57,58,59],[],[],[],[6,7,11,57,58,59,69],[6,7,11,57,58,59,69,76],[6,7,11,57,58,59,78],[6,7,11,57,58,59,78,83],[],[],[],[],[6,7],[],[],[],[6,7,12,99,100],[],[],[],[],[6,7,12,99,100,102,103],[],[],[],[],[6,7,12,99,100,102,103],[6,7,12,99,100],[7,12],[]]
 | 60=>[[],[],[],[],[],[]]
 | 61=>[[],[]]
 | 62=>[[],[],[],[],[0,5,9,10,11],[],[],[],[],[5],[]]
 | 63=>[[],[0,1,2,11],[11,21],[]]
 | 74=>[[],[],[],[],[0,3,5],[],[],[],[],[0,3,5],[3],[]]
 | 75=>[[],[]]
 | 77=>[[],[]]
 | 78=>[[],[],[],[],[4,9,10,11],[],[],[],[],[],[],[],[],[4],[]]
 | 80=>[[],[],[],[],[4,10,11,12],[],[],[],[],[],[],[],[],[4],[]]
 | 81=>[[],[]]
 | 82=>[[],[]]
 | 83=>[[],[1,6],[6,9],[]]
 | 84=>[[],[1,2,12],[12,19],[]]
 | 85=>[[],[],[],[],[4,5,12,13,14],[],[],[],[],[4,5],[]]
 | 86=>[[],[]]
 | 87=>[[],[2,3,4,7],[2,3,4,7,9],[],[],[],[]]
 | 88=>[[],[2,3,4,7],[2,3,4,7,9],[],[],[],[]]
 | 89=>[[],[],[],[],[],[],[0,3],[],[],[],[],[],[3,4,5,6],[3,4,5,6,20],[3,4,5,6,20,24],[3,4,5,6,20,24,26],[3,4,5,6,20,27],[],[],[],[],[3,4],[3],[],[]]
 | 90=>[[],[1,8],[8,14],[]]
 | 91=>[[],[],[],[0,1,5],[0,1,5,10],[0,1,5,10,14],[],[],[],[],[],[0,1],[]]
 | 92=>[[],[]]
 | 93=>[[],[],[],[],[],[],[],[1,3,4],[],[],[],[],[],[3],[],[3],[],[],[3],[]]
 | 94=>[[],[],[]]
 | 95=>[[],[1,2,6],[1,2,6,10],[],[]]
 | 96=>[[],[]]
 | 97=>[[],[],[],[],[],[],[],[],[],[0,1,2,3,8,9,27,28,29],[],[],[],[],[],[],[0,1,2,3,8,9,12,27,28,29,55],[0,1,2,3,8,9,12,27,28,29,55,58],[],[0,1,2,3,8,9,27,28,29],[0,1,8],[],[]]
 | 98=>[[],[]]
 | 105=>[[],[],[],[0,2,3],[]]
 | 106=>[[],[],[2,3,4],[],[],[],[],[],[],[]]
 | 107=>[[],[]]
 | 108=>[[],[],[],[],[],[],[],[2,6,8,9,10,11,38],[2,6,8,9,10,11,38,42],[2,6,8,9,10,11,12],[2,6,8,9,11,12,46],[2,6,8,9,11,46,48],[2,6,8,9,11,50],[2,6,8,9,11,50,52],[2,6,8,9,11,50,52,55],[2,6,8,9,11,50,56],[],[],[],[],[]]
 | 109=>[[],[],[],[],[],[],[]]
 | 110=>[[],[],[],[0,1,7,8],[],[],[],[],[],[],[],[]]
 | 111=>[[],[]]
 | 112=>[[],[]]
 | 113=>[[],[],[],[],[],[],[]]
 | 114=>[[],[],[],[],[],[0,1,6,7,8],[],[],[],[],[6,7],[]]
 | 115=>[[],[],[0,2,3],[],[],[]]
 | 116=>[[],[]]
 | 117=>[[],[1,4,6],[1,4,6,9],[]]
 | 118=>[[],[],[0],[0,6],[0,6,13],[],[],[0],[]]
 | 119=>[[],[]]
 | 120=>[[],[],[],[4,5,6],[],[],[],[4,5],[]]
 | 121=>[[],[],[],[2,3,4,5,8,9,32],[3,4,5,8,9,32,37],[],[4,5,8,9],[]]
 | 122=>[[],[],[],[],[1,5,18,19,20],[],[],[],[],[],[],[1,5,6,7,8,18,19,20,25,26,27],[],[],[],[],[],[1,5,6,8,18,19,20],[1,5,18,19,20],[5],[]]
 | 123=>[[],[]]
 | 124=>[[],[]]
 | 125=>[[],[],[],[0,11,12],[],[],[],[0,4,11,12,19],[0,11,12,19,23],[],[],[],[0],[0,28],[0,28,32],[0,28,32,35],[0,28,36],[0,38],[0,38,41],[],[],[],[],[],[0,5],[],[],[],[],[],[],[0,5,6,7,8,50,51],[],[],[],[],[0,5,6,7,8],[],[5],[]]
 | 126=>[[],[],[],[],[],[],[],[],[],[0,1,5],[],[],[],[],[],[],[],[],[],[]]
 | 127=>[[],[]]
 | 128=>[[],[],[0,1],[],[],[],[],[0,1,5,6,21,22],[],[],[],[],[],[0,1,5,6,7,8,21,22],[0,1,5,6,21,22],[0,5,6],[],[]]
 | 129=>[[],[],[],[],[],[0,1,5,6,13,14],[],[],[],[],[],[0,1,5,6,7,8,13,14],[0,1,5,6,13,14],[5],[]]
 | 130=>[[],[],[],[],[],[],[],[],[],[],[],[],[],[],[8,9,10,11,12,13],[],[],[],[8,10,11,12],[]]
 | 131=>[[],[],[],[],[],[]]
 | 132=>[[],[],[],[],[]]
 | 133=>[[],[],[],[]]
 | 134=>[[],[],[]]
 | 135=>[[],[]]
 | 136=>[[],[],[],[],[1,5,13,14,15],[],[],[],[],[],[],[5],[]]
 | 137=>[[],[],[],[],[],[0,1,5,7,8],[],[],[],[],[],[0,1,5,7],[],[],[],[0,1,5,7,9,10,83,84],[],[],[],[],[],[],[0,1,5,7,9,10],[],[],[],[],[],[],[0,1,5,7,13,132,133],[],[],[],[],[0,5,7,13],[7],[]]
 | 138=>[[],[],[],[],[0,1,5,12,13],[],[],[],[],[],[0,1,5,6,7,12,13],[0,1,5,12,13],[5],[]]
 | 139=>[[],[],[0,1,4,5,12,19,36,107,132],[0,1,4,5,12,19,22,36,107,132],[],[],[],[],[],[],[],[],[],[],[],[],[],[],[],[0,1,5,6,7,8,9,10,12,107,132],[],[],[],[],[],[],[],[0,1,5,6,7,8,9,10,12,107,132],[0,1,5,6,7,8,9,10,12,84,107,132],[0,1,5,6,7,8,9,10,12,84,92,107,132],[],[],[],[],[],[],[],[],[],[],[],[],[],[],[],[],[],[],[]]
 | 140=>[[],[0,1,10],[10,16],[]]
 | 141=>[[],[],[],[0,2],[],[],[0,2],[]]
 | 142=>[[],[]]
 | 144=>[[],[]]
 | 145=>[[],[],[],[],[],[],[0,1,5,6,7,8,9],[],[],[],[0,1,5,6,7,8],[0,1,5,6,7,8,33],[0,1,5,6,7,8,33,38],[],[],[],[],[],[0,1,5,6,7,8,10],[],[],[],[],[],[],[0,1,5,6,7,8,10,68],[0,1,5,6,7,8,10,68,76],[],[],[],[]]
 | 147=>[[],[],[],[],[0,4,5],[],[],[],[0,4],[],[],[],[4,6,7,8],[],[],[],[4,6,7,8],[4,6,7,8],[4,6],[]]
 | _=>[]
end
end Go.Proofs.YtelmdbpaoifmoaaGreat
namespace Go.Sim
section
noncomputable def JP (P:Program) (H:FuncId->Hints) (lf:Nat) (call:lT):lT:=
 λt args h=>
  match t with
  | .func F=>
   match bE P F (H F) with
   | some (N,ic,rs)=>
    if args.length<=N then
     match mB P (call) lf ic (bw args) h with
     | some (.normal,f,h')=>match pI rs f h' with | some vs=>some (pack vs,h') | none=>none
     | some (.ret,f,h')=>match pI rs f h' with | some vs=>some (pack vs,h') | none=>none
     | _=>none
    else none
   | none=>none
  | .yield i=>
   match h[i]? with
   | some (.loop c ls vs)=>
    match fX P c.N c.kL [],fX P c.N c.body [] with
    | some (ia,_),some (ib,_)=>
     if args.length=c.ps.size/\c.ps.all (·<c.N)=true/\ja c.kL=true/\ja c.body=true then
      match mB P (call) lf ia (C7 c.ps.toList args (kS ls vs)) (h.set i .dead) with
      | some (.normal,f1,h1)=>
       if KS h1 i=true then
        match mB P (call) lf ib f1 h1 with
        | some (.normal,_,h2)=>if KS h2 i=true then some (.bool true,h2.set i (.loop c ls vs)) else none
        | _=>none
       else none
      | _=>none
     else none
    | _,_=>none
   | _=>none
  | _=>none
theorem aAp {P:Program} {H:FuncId->Hints} {lf:Nat} {call:lT} (HC:sK P call):sK P (JP P H lf call):=by
 constructor
 ·intro F args h v h' he
  simp only [JP] at he
  split at he
  ·rename_i N ic rs hc
   split at he
   ·rename_i ha
    have key:∀{e f h1 vs},(e=Exit.normal∨e=Exit.ret)->mB P (call) lf ic (bw args) h=some (e,f,h1)->pI rs f h1=some vs->ue P F args h (pack vs) h1:=by
     intro e f h1 vs S3 ET hr
     obtain ⟨u,g,q1,rfl,rfl⟩:=aiA hc ha (K:=λu g=>u=pack vs/\g=h1) (R8 HC ET (by
      rcases S3 with rfl | rfl
      ·exact Mz hr ⟨rfl,rfl⟩
      ·exact Mz hr ⟨rfl,rfl⟩))
     exact q1
    split at he
    ·rename_i f h1 ET
     split at he
     ·rename_i vs hr
      simp at he
      obtain ⟨rfl,rfl⟩:=he
      exact key (.inl rfl) ET hr
     ·cases he
    ·rename_i f h1 ET
     split at he
     ·rename_i vs hr
      simp at he
      obtain ⟨rfl,rfl⟩:=he
      exact key (.inr rfl) ET hr
     ·cases he
    ·cases he
   ·cases he
  ·cases he
 ·intro i args h v h' he
  simp only [JP] at he
  split at he
  ·rename_i c ls vs hi
   split at he
   ·rename_i ia _ ib _ ha hb
    split at he
    ·rename_i Am
     obtain ⟨c1,c2,c3,c4⟩:=Am
     split at he
     ·rename_i f1 h1 e1
      split at he
      ·rename_i d1
       split at he
       ·rename_i f2 h2 e2
        split at he
        ·rename_i d2
         simp at he
         obtain ⟨rfl,rfl⟩:=he
         obtain ⟨u,g,q1,rfl,rfl⟩:=aKR (K:=λu g=>u=.bool true/\g=h2.set i (.loop c ls vs)) hi c1 c2 ha hb c3 c4
          (R8 HC e1 ⟨rfl,aiN d1,R8 HC e2 ⟨rfl,aiN d2,rfl,rfl⟩⟩)
         exact q1
        ·cases he
       ·cases he
      ·cases he
     ·cases he
    ·cases he
   ·cases he
  ·cases he
end
end Go.Sim
namespace Go.Proofs.YtelmdbpaoifmoaaGreat
open Go.Sim
section
variable (P : Program) (K : VK)
noncomputable section
variable (v0 x1 x2 ay aB : Value) (h : ae)
def ak4:=bE prog 46 [[],[0,2,10],[10,13],[]]
@[irreducible] def IV:=bM ak4
@[irreducible] def adY:=IV.r.l.r.l
@[irreducible] def axb:=IV.r.r
@[irreducible] def axc:=adY.r.l
theorem k46:ak4=some (15,IV,[.tmp 6]):=by kernel_rfl
def aau (_P:Program) (K:VK):ar:=aT [.tmp 6] K
def aav:ar:=aH (aj P axb (aau P K)) (aau P K)
def ano:Prop:=ax (aj P adY (aav P K)) [0,2,10] [v0,x2,ay] h
def Wg:Prop:=ax (aj P axc (aav P K)) [10,13] [ay,aB] h
theorem apG:Wg P K ay aB h=
 (OP (bF ay aB (.bool false)) λaA=>
 K aA h):=az (by kernel_rfl)
theorem apF:ano P K v0 x2 ay h=
 (ck ay true
 (OP (ai .leq v0 x2) λaB=>
 Wg P K ay aB h)
 (Wg P K ay undef h)):=az (by kernel_rfl)
def PC:Prop:=
 OP (ai .geq v0 x1) λx9=>
 ano P K v0 x2 x9 h
theorem e46:aj P IV (aT [.tmp 6] K) (bw [v0,x1,x2]) h=PC P K v0 x1 x2 h:=by kernel_rfl
theorem f46 {K:VK} {v0 x1 x2:Value} {h:ae} (H:PC prog K v0 x1 x2 h):ak prog 46 [v0,x1,x2] h K:=
 bN k46 (bJ rfl) ((e46 prog K v0 x1 x2 h).mpr H)
end
noncomputable section
variable (p0 : Value) (h : ae)
def alh:=bE prog 61 [[],[]]
@[irreducible] def c61:=bM alh
theorem k61:alh=some (10,c61,[.tmp 2]):=by kernel_rfl
def PQ (_:Program) (K:VK) (p0:Value) (h:ae):Prop:=
 OP (yC p0) λx4=>
 OP (aJ 0 x4) λx5=>
 OP (af false 1 h x5) λx6=>
 OP (bk x6) λx7=>
 OP (ai .shl (.int .u16 (1)) x7) λx8=>
 OP (ai .sub x8 (.int .u16 (1))) λx9=>
 K x9 h
theorem e61:aj P c61 (aT [.tmp 2] K) (bw [p0]) h=PQ P K p0 h:=by kernel_rfl
theorem f61 {K:VK} {p0:Value} {h:ae} (H:PQ prog K p0 h):ak prog 61 [p0] h K:=
 bN k61 (bJ rfl) ((e61 prog K p0 h).mpr H)
end
noncomputable section
variable (p0 s1 x5 x9 ay au : Value) (L1 : LQ) (xs : List Value) (h : ae)
def ali:=bE prog 62 [[],[],[],[0,9,10],[5,11],[],[],[],[],[5],[]]
@[irreducible] def I2:=bM ali
@[irreducible] def axF:=I2.r.r.l.r.l.l
@[irreducible] def aeC:=I2.r.r.r
@[irreducible] def axE:=aeC.l
theorem k62:ali=some (27,I2,[.tmp 4]):=by kernel_rfl
def Oh (_P:Program) (K:VK):ar:=aT [.tmp 4] K
def atU:ar:=aH (aj P aeC (Oh P K)) (Oh P K)
def atV:ar:=bH 0 (atU P K)
def atW:ar:=aH (λf' aX=>(([0,9,10]:List Nat).map f':List Value)=[p0,x9,ay]/\L1 (([5,11]:List Nat).map f') aX) (atV P K)
def anN:Prop:=ax (aj P axF (atW P K p0 x9 ay L1)) ([0,9,10]++[5,11]) ([p0,x9,ay]++xs) h
def anM:Prop:=ax (aj P axE (Oh P K)) [5] [x5] h
theorem aHA (p0 x9 ay:Value) (L1:LQ) (x5 au:Value) (h:ae):anN P K p0 x9 ay L1 [x5,au] h=
 (OP (ai .lss au ay) λaD=>
 aN aD
 (OP (aZ 1 x9 au) λaB=>
 OP (af false 1 h aB) λaA=>
 OP (yC p0) λbK=>
 OP (aJ 0 bK) λaS=>
 OP (af false 1 h aS) λaK=>
 OP (aZ 2 aK aA) λba=>
 OP (aJ 0 ba) λbO=>
 OP (af false 1 h bO) λcB=>
 OP (ai .add x5 cB) λbL=>
 OP (ai .add au (.int .i64 (1))) λbX=>
 ([p0,x9,ay]:List Value)=[p0,x9,ay]/\L1 [bL,bX] h)
 (anM P K x5 h)):=az (by kernel_rfl)
theorem aHz:anM P K x5 h=
 (K x5 h):=az (by kernel_rfl)
def T62:Prop:=
 ak P 74 [s1] h λx9 z1=>
 OP (bk x9) λay=>
 cO [(.int .i64 (0)),(.int .i64 (0))] z1 λL1 xs hx=>
 anN P K p0 x9 ay L1 xs hx
theorem e62:aj P I2 (aT [.tmp 4] K) (bw [p0,s1]) h=T62 P K p0 s1 h:=by kernel_rfl
theorem f62 {K:VK} {p0 s1:Value} {h:ae} (H:T62 prog K p0 s1 h):ak prog 62 [p0,s1] h K:=
 bN k62 (bJ rfl) ((e62 prog K p0 s1 h).mpr H)
end
noncomputable section
variable (s0 x3 x5 : Value) (L1 : LQ) (xs : List Value) (h : ae)
def alu:=bE prog 74 [[],[],[],[0],[3,5],[],[],[],[],[0,3,5],[3],[]]
@[irreducible] def Je:=bM alu
@[irreducible] def ae9:=Je.r.r.l.r.l.l
@[irreducible] def ae8:=Je.r.r.r
@[irreducible] def ayc:=ae9.r.r.r.l
@[irreducible] def ayd:=ae8.l
theorem k74:alu=some (17,Je,[.tmp 2]):=by kernel_rfl
def Oo (_P:Program) (K:VK):ar:=aT [.tmp 2] K
def aus:ar:=aH (aj P ae8 (Oo P K)) (Oo P K)
def aut:ar:=bH 0 (aus P K)
def aaX:ar:=aH (λf' aX=>(([0]:List Nat).map f':List Value)=[s0]/\L1 (([3,5]:List Nat).map f') aX) (aut P K)
def aoj:Prop:=ax (aj P ae9 (aaX P K s0 L1)) ([0]++[3,5]) ([s0]++xs) h
def WI:Prop:=ax (aj P ayc (aaX P K s0 L1)) [0,3,5] [s0,x3,x5] h
def aoi:Prop:=ax (aj P ayd (Oo P K)) [3] [x3] h
theorem apW:WI P K s0 x3 x5 L1 h=
 (OP (ai .add x5 (.int .i64 (1))) λaP=>
 ([s0]:List Value)=[s0]/\L1 [x3,aP] h):=az (by kernel_rfl)
theorem aIb (s0:Value) (L1:LQ) (x3 x5:Value) (h:ae):aoj P K s0 L1 [x3,x5] h=
 (OP (ai .lss x5 (.int .i64 (10))) λx6=>
 aN x6
 (ak P 98 [s0,x5] h λay z1=>
 aN ay
 (OH (dN 3 1 [(.int .i64 (0))] z1 [(0,1,x5)]) λaB z2=>
 OH (eG 3 1 8 z2 x3 aB) λaA z3=>
 WI P K s0 aA x5 L1 z3)
 (WI P K s0 x3 x5 L1 z1))
 (aoi P K x3 h)):=az (by kernel_rfl)
theorem aIa:aoi P K x3 h=
 (K x3 h):=az (by kernel_rfl)
def P2:Prop:=
 cO [(.slice none 0 0),(.int .i64 (0))] h λL1 xs hx=>
 aoj P K s0 L1 xs hx
theorem e74:aj P Je (aT [.tmp 2] K) (bw [s0]) h=P2 P K s0 h:=by kernel_rfl
theorem f74 {K:VK} {s0:Value} {h:ae} (H:P2 prog K s0 h):ak prog 74 [s0] h K:=
 bN k74 (bJ rfl) ((e74 prog K s0 h).mpr H)
end
noncomputable section
variable (p0 s1 x5 x9 ay au : Value) (L1 : LQ) (xs : List Value) (h : ae)
def alw:=bE prog 76 [[],[],[],[0,9,10],[5,11],[],[],[],[],[5],[]]
@[irreducible] def Jf:=bM alw
@[irreducible] def ayf:=Jf.r.r.l.r.l.l
@[irreducible] def afb:=Jf.r.r.r
@[irreducible] def aye:=afb.l
theorem k76:alw=some (27,Jf,[.tmp 4]):=by kernel_rfl
def Oq (_P:Program) (K:VK):ar:=aT [.tmp 4] K
def auu:ar:=aH (aj P afb (Oq P K)) (Oq P K)
def auv:ar:=bH 0 (auu P K)
def auw:ar:=aH (λf' aX=>(([0,9,10]:List Nat).map f':List Value)=[p0,x9,ay]/\L1 (([5,11]:List Nat).map f') aX) (auv P K)
def aol:Prop:=ax (aj P ayf (auw P K p0 x9 ay L1)) ([0,9,10]++[5,11]) ([p0,x9,ay]++xs) h
def aok:Prop:=ax (aj P aye (Oq P K)) [5] [x5] h
theorem aId (p0 x9 ay:Value) (L1:LQ) (x5 au:Value) (h:ae):aol P K p0 x9 ay L1 [x5,au] h=
 (OP (ai .lss au ay) λaD=>
 aN aD
 (OP (aZ 1 x9 au) λaB=>
 OP (af false 1 h aB) λaA=>
 OP (yC p0) λbK=>
 OP (aJ 0 bK) λaS=>
 OP (af false 1 h aS) λaK=>
 OP (aZ 2 aK aA) λba=>
 OP (aJ 1 ba) λbO=>
 OP (af false 1 h bO) λcB=>
 OP (ai .add x5 cB) λbL=>
 OP (ai .add au (.int .i64 (1))) λbX=>
 ([p0,x9,ay]:List Value)=[p0,x9,ay]/\L1 [bL,bX] h)
 (aok P K x5 h)):=az (by kernel_rfl)
theorem aIc:aok P K x5 h=
 (K x5 h):=az (by kernel_rfl)
def T76:Prop:=
 ak P 74 [s1] h λx9 z1=>
 OP (bk x9) λay=>
 cO [(.int .i64 (0)),(.int .i64 (0))] z1 λL1 xs hx=>
 aol P K p0 x9 ay L1 xs hx
theorem e76:aj P Jf (aT [.tmp 4] K) (bw [p0,s1]) h=T76 P K p0 s1 h:=by kernel_rfl
theorem f76 {K:VK} {p0 s1:Value} {h:ae} (H:T76 prog K p0 s1 h):ak prog 76 [p0,s1] h K:=
 bN k76 (bJ rfl) ((e76 prog K p0 s1 h).mpr H)
end
noncomputable section
variable (s0 i1 : Value) (h : ae)
def alO:=bE prog 98 [[],[]]
@[irreducible] def c98:=bM alO
theorem k98:alO=some (10,c98,[.tmp 4]):=by kernel_rfl
def Qk (_:Program) (K:VK) (s0 i1:Value) (h:ae):Prop:=
 OP (ai .shr s0 i1) λx7=>
 OP (ai .and x7 (.int .u16 (1))) λx8=>
 OP (ai .eql x8 (.int .u16 (1))) λx9=>
 K x9 h
theorem e98:aj P c98 (aT [.tmp 4] K) (bw [s0,i1]) h=Qk P K s0 i1 h:=by kernel_rfl
theorem f98 {K:VK} {s0 i1:Value} {h:ae} (H:Qk prog K s0 i1 h):ak prog 98 [s0,i1] h K:=
 bN k98 (bJ rfl) ((e98 prog K s0 i1 h).mpr H)
end
end
end Go.Proofs.YtelmdbpaoifmoaaGreat
namespace Go.Sim
section
def val (B:Nat):List Nat->Nat
 | []=>0
 | d::ds=>d+B*val B ds
def cN (B:Nat) (xs:List Nat):Prop:=∀x∈xs,x<B
def dJ (B:Nat) (xs:List Nat):Prop:=cN B xs/\xs.getLast?≠some 0
theorem og (B:Nat):∀xs ys:List Nat,val B (xs++ys)=val B xs+B^xs.length*val B ys
 | [],ys=>by simp [val]
 | x::xs,ys=>by
  simp only [List.cons_append,val,og B xs ys,length_cons,Nat.pow_succ]
  grind
theorem yN (B:Nat):∀n,val B (List.replicate n 0)=0
 | 0=>rfl
 | n+1=>by rw [List.replicate_succ];simp [val,yN B n]
theorem tU (B:Nat):∀(xs:List Nat) (i d:Nat) (hi:i<xs.length),val B (xs.set i d)+B^i*xs[i]=val B xs+B^i*d
 | [],i,d,hi=>by simp at hi
 | x::xs,0,d,hi=>by simp [val];omega
 | x::xs,i+1,d,hi=>by
  have ih:=tU B xs i d (by simpa using hi)
  simp only [List.set_cons_succ,val,List.getElem_cons_succ,Nat.pow_succ]
  grind
theorem jK (B:Nat) (xs:List Nat) {i:Nat} (hi:i<xs.length):val B (xs.take (i+1))=val B (xs.take i)+B^i*xs[i]:=by
 rw [List.take_succ_eq_append_getElem hi,og]
 simp [val,Nat.min_eq_left (Nat.le_of_lt hi)]
theorem cN.mono {B:Nat} {xs ys:List Nat} (h:cN B xs) (hs:∀y∈ys,y∈xs):cN B ys:=λy hy=>h y (hs y hy)
theorem cN.append {B:Nat} {xs ys:List Nat} (h:cN B xs) (k:cN B ys):cN B (xs++ys):=λy hy=>(mem_append.1 hy).elim (h y) (k y)
theorem cN.set {B:Nat} {xs:List Nat} (h:cN B xs) {d:Nat} (hd:d<B) (i:Nat):cN B (xs.set i d):=λy hy=>by
 rcases List.mem_or_eq_of_mem_set hy with h1 | h1
 ·exact h y h1
 ·rw [h1];exact hd
theorem cN.xu {B:Nat} (hB:0<B) (n:Nat):cN B (List.replicate n 0):=λy hy=>by
 rw [(List.mem_replicate.1 hy).2];exact hB
theorem nJ {B:Nat}:∀{xs:List Nat},cN B xs->val B xs<B^xs.length
 | [],_=>by simp [val]
 | x::xs,h=>by
  have h1:=h x (by simp)
  have ih:=nJ (xs:=xs) λy hy=>h y (by simp [hy])
  simp only [val,length_cons,Nat.pow_succ]
  have:B*(val B xs+1)<=B*B^xs.length:=Nat.mul_le_mul_left _ ih
  rw [Nat.mul_comm (B^xs.length)]
  grind
theorem dJ.cons {B:Nat} {x:Nat} {xs:List Nat} (h:dJ B (x::xs)):x<B/\dJ B xs/\(xs=[]->x≠0):=by
 refine ⟨h.1 x (by simp),⟨λy hy=>h.1 y (by simp [hy]),?_⟩,?_⟩
 ·intro hl
  apply h.2
  cases xs with
  | nil=>simp at hl
  | cons y ys=>simpa [List.getLast?_cons_cons] using hl
 ·rintro rfl rfl
  exact h.2 rfl
theorem dJ.zero {B:Nat} (hB:0<B):∀{xs:List Nat},dJ B xs->val B xs=0->xs=[]
 | [],_,_=>rfl
 | x::xs,h,h0=>by
  obtain ⟨_,h2,h3⟩:=h.cons
  simp only [val] at h0
  have hx:x=0:=by omega
  have hv:B*val B xs=0:=by omega
  have:val B xs=0:=by
   rcases Nat.mul_eq_zero.1 hv with h | h
   ·omega
   ·exact h
  exact absurd hx (h3 (dJ.zero hB h2 this))
theorem dJ.unique {B:Nat} (hB:0<B):∀{xs ys:List Nat},dJ B xs->dJ B ys->val B xs=val B ys->xs=ys
 | [],ys,_,hy,h=>(dJ.zero hB hy (by simpa [val] using h.symm)).symm
 | x::xs,[],hx,_,h=>dJ.zero hB hx (by simpa [val] using h)
 | x::xs,y::ys,hx,hy,h=>by
  obtain ⟨a1,a2,_⟩:=hx.cons
  obtain ⟨b1,b2,_⟩:=hy.cons
  simp only [val] at h
  have e1:x=y:=by
   have:=congrArg (·%B) h
   simpa [Nat.add_mul_mod_self_left,Nat.mod_eq_of_lt a1,Nat.mod_eq_of_lt b1] using this
  subst e1
  have e2:val B xs=val B ys:=Nat.eq_of_mul_eq_mul_left hB (by omega)
  rw [dJ.unique hB a2 b2 e2]
theorem dJ.low {B:Nat} (hB:0<B):∀{xs:List Nat},dJ B xs->xs≠[]->B^(xs.length-1)<=val B xs
 | [x],h,_=>by
  have:=h.cons.2.2 rfl
  simp [val]
  omega
 | x::y::xs,h,_=>by
  have ih:=dJ.low hB h.cons.2.1 (by simp)
  simp only [length_cons,Nat.add_sub_cancel] at ih⊢
  rw [show val B (x::y::xs)=x+B*val B (y::xs) from rfl,Nat.pow_succ]
  have:B*B^xs.length<=B*val B (y::xs):=Nat.mul_le_mul_left _ ih
  rw [Nat.mul_comm (B^xs.length)]
  omega
theorem dJ.len {B k:Nat} (hB:1<B) {xs:List Nat} (h:dJ B xs) (hv:val B xs<B^k):xs.length<=k:=by
 by_cases hx:xs=[]
 ·subst hx;simp
 ·have h1:=dJ.low (by omega) h hx
  have h2:B^(xs.length-1)<B^k:=Nat.lt_of_le_of_lt h1 hv
  have:=(Nat.pow_lt_pow_iff_right hB).1 h2
  have:0<xs.length:=List.length_pos_iff.2 hx
  omega
theorem dJ.nil (B:Nat):dJ B []:=⟨λx hx=>by simp at hx,by simp⟩
theorem dJ.A4 {B:Nat} (hB:1<B) {xs ys:List Nat} (hx:dJ B xs) (hy:dJ B ys) (h:xs.length<ys.length):val B xs<val B ys:=by
 have h1:=nJ hx.1
 have h2:=dJ.low (by omega) hy (by rintro rfl;simp at h)
 have h3:B^xs.length<=B^(ys.length-1):=pow_le_pow_right (by omega) (by omega)
 omega
theorem Jr {B:Nat} {xs:List Nat} (h:cN B xs) (hl:∀h0:0<xs.length,xs[xs.length-1]≠0):dJ B xs:=by
 refine ⟨h,λh0=>?_⟩
 rw [List.getLast?_eq_getElem?] at h0
 obtain ⟨h1,h2⟩:=bz h0
 exact hl (by omega) h2
end
section
def SK (k:IntKind):Prop:=k=.u16∨k=.i64
theorem SK.wrap {k:IntKind} (hk:SK k) {n:Int} (h0:0<=n) (h1:n<32768):k.wrap n=n:=by
 rcases hk with rfl | rfl
 ·have e:IntKind.wrap .u16 n=n%65536:=by simp [IntKind.wrap,IntKind.bits,IntKind.signed]
  rw [e];omega
 ·exact wrap64 (by omega) (by omega)
theorem SK.bits {k:IntKind} (hk:SK k):16<=k.bits:=by
 rcases hk with rfl | rfl <;> decide
theorem SK.toNat {k:IntKind} (hk:SK k) {a:Nat} (ha:a<1024):(BitVec.ofInt k.bits (a:Int)).toNat=a:=by
 have h:=hk.bits
 have h2:(2:Nat)^16<=2^k.bits:=pow_le_pow_right (by decide) h
 rw [BitVec.toNat_ofInt]
 have h3:((2^k.bits:Nat):Int)=2^k.bits:=by simp
 rw [Int.emod_eq_of_lt (by omega) (by omega)]
 omega
theorem orK {k:IntKind} (hk:SK k) {a b:Nat} (ha:a<1024) (hb:b<1024):ai .or (.int k (a:Int)) (.int k (b:Int))=some (.int k ((a ||| b:Nat):Int)):=by
 have e:ai .or (.int k (a:Int)) (.int k (b:Int))=some (Value.int k (k.wrap ((BitVec.ofInt k.bits (a:Int) ||| BitVec.ofInt k.bits (b:Int)).toNat:Int))):=by simp [ai,iX]
 rw [e,BitVec.toNat_or,hk.toNat ha,hk.toNat hb]
 have:a ||| b<2^10:=Nat.or_lt_two_pow ha hb
 rw [hk.wrap (by omega) (by omega)]
theorem abv {k:IntKind} (hk:SK k) {a b:Nat} (ha:a<1024) (hb:b<1024):ai .and (.int k (a:Int)) (.int k (b:Int))=some (.int k ((a &&& b:Nat):Int)):=by
 have e:ai .and (.int k (a:Int)) (.int k (b:Int))=some (Value.int k (k.wrap ((BitVec.ofInt k.bits (a:Int) &&& BitVec.ofInt k.bits (b:Int)).toNat:Int))):=by simp [ai,iX]
 rw [e,BitVec.toNat_and,hk.toNat ha,hk.toNat hb]
 have:a &&& b<2^10:=Nat.and_lt_two_pow _ hb
 rw [hk.wrap (by omega) (by omega)]
def kU (a b:Nat):Bool:=a &&& b==a
theorem aJK {k:IntKind} (hk:SK k) {s a:Nat} (ha:a<16):ai .shr (.int k (s:Int)) (I a)=some (.int k ((s / 2^a:Nat):Int)):=by
 have h:=hk.bits
 simp only [ai,re]
 rw [if_neg (by omega)]
 have:min ((a:Int).toNat) k.bits=a:=by omega
 rw [this,Int.fdiv_eq_ediv_of_nonneg _ (Int.pow_nonneg (by decide))]
 rfl
theorem aJG {k:IntKind} (hk:SK k) {a:Nat} (ha:a<11):ai .shl (.int k 1) (I a)=some (.int k ((2^a:Nat):Int)):=by
 have h:=hk.bits
 simp only [ai,re]
 rw [if_neg (by omega)]
 have:min ((a:Int).toNat) k.bits=a:=by omega
 rw [this,Int.one_mul]
 have h2:(2:Nat)^a<=2^10:=pow_le_pow_right (by decide) (by omega)
 have h3:((2:Int)^a)=((2^a:Nat):Int):=by simp
 have hpa:((2^a:Nat):Int)<=((1024:Nat):Int):=Int.ofNat_le.2 h2
 rw [h3,hk.wrap (Int.natCast_nonneg _) (by omega)]
theorem avb (z:Nat):z &&& 1=z%2:=Nat.and_one_is_mod z
theorem vA {a b:Nat}:kU a b=true↔∀i,a.testBit i=true->b.testBit i=true:=by
 unfold kU
 rw [beq_iff_eq]
 constructor
 ·intro h i hi
  have:=congrArg (λn=>n.testBit i) h
  simp only [testBit_and] at this
  rw [hi] at this
  simpa using this
 ·intro h
  apply eq_of_testBit_eq
  intro i
  rw [testBit_and]
  cases hi:a.testBit i with
  | false=>rfl
  | true=>rw [h i hi];rfl
end
section
def od {α:Type}:List α->(α->Int)->Int
 | [],_=>0
 | x::l,f=>f x+od l f
section
variable {α β : Type}
theorem X9 (f:α->Int):∀l m:List α,od (l++m) f=od l f+od m f
 | [],m=>by simp [od]
 | x::l,m=>by simp only [List.cons_append,od,X9 f l m];omega
end
section
variable (com : Nat -> Nat -> Bool)
variable {com}
end
end
end Go.Sim
namespace Go.Proofs.YtelmdbpaoifmoaaGreat
open Go.Sim
section
abbrev U (s:Nat):Value:=.int .u16 (s:Int)
theorem vp:SK .u16:=.inl rfl
def PL (h:ae) (p:Value) (js:List (Int×Int)) (bs:List Nat):Prop:=∃i vj vb,p=pt i 0/\aW h i=some [vj,vb]/\PS h vj js/\NS h vb .u16 (bs.map λb:Nat=>(b:Int))
theorem PL.mono {h h':ae} {p:Value} {js:List (Int×Int)} {bs:List Nat} (x:EX h h') (q:PL h p js bs):PL h' p js bs:=
 let ⟨i,vj,vb,a,b,c,d⟩:=q;⟨i,vj,vb,a,x.cells b,c.mono x,d.mono x⟩
def HW (n:Nat):Nat:=2^n-1
theorem C98 {s i:Nat} {h:ae} {K:Value->ae->Prop} (hi:i<16) (hs:s<1024) (hk:K (B (s.testBit i)) h):ak prog 98 [U s,I i] h K:=by
 refine f98 ?_
 have hd:s / 2^i<1024:=Nat.lt_of_le_of_lt (Nat.div_le_self _ _) hs
 have ha:=abv vp hd (show 1<1024 by decide)
 have kO:ai .and (.int .u16 ((s / 2^i:Nat):Int)) (.int .u16 1)=some (.int .u16 ((s / 2^i &&& 1:Nat):Int)):=ha
 simp only [Qk,aJK vp hi,ah,kO,hY]
 have e:decide (((s / 2^i &&& 1:Nat):Int)=1)=s.testBit i:=by
  rw [Nat.testBit_eq_decide_div_mod_eq,avb]
  by_cases h1:s / 2^i%2=1
  ·rw [bj h1,bj (by omega)]
  ·rw [aY h1,aY (by omega)]
 rw [e]
 exact hk
theorem Zr {p:Value} {js:List (Int×Int)} {bs:List Nat} {h:ae} {K:Value->ae->Prop} (hp:PL h p js bs) (hl:js.length<=10) (hk:K (U (HW js.length)) h):ak prog 61 [p] h K:=by
 obtain ⟨i,vj,vb,rfl,hc,hj,hb⟩:=hp
 refine f61 ?_
 have ld:af false 1 h (pt i 0)=some vj:=by simp [af,hc,cP]
 have e1:(1:Nat)<=2^js.length:=Nat.pow_pos (by decide)
 have e2:(2:Nat)^js.length<=2^10:=pow_le_pow_right (by decide) hl
 simp only [PQ,Ln,ah,bZ,Nat.add_zero,ld,hj.len,aJG vp (show js.length<11 by omega),gE]
 rw [vp.wrap (by omega) (by omega)]
 have:((2^js.length:Nat):Int)-1=((HW js.length:Nat):Int):=by unfold HW;omega
 rw [this]
 exact hk
theorem NS.aAQ {h:ae} {v:Value} {bs:List Nat} (p:NS h v .u16 (bs.map λb:Nat=>(b:Int))) {i:Nat} (hi:i<bs.length):∃b o,aZ 1 v (I i)=some (pt b o)/\af false 1 h (pt b o)=some (U (bs.getD i 0)):=by
 obtain ⟨b,o,g1,g2⟩:=p.get i (by simpa using hi)
 refine ⟨b,o,g1,?_⟩
 rw [g2]
 simp [getD_eq_getElem?_getD,hi]
def dd (s:Nat):Nat->List Nat
 | 0=>[]
 | i+1=>if s.testBit i=true then dd s i++[i] else dd s i
theorem FF (s:Nat):∀n,(dd s n).length<=n
 | 0=>le_refl _
 | n+1=>by have:=FF s n;simp only [dd];split <;> simp <;> omega
theorem CQ (s:Nat):∀(n i:Nat),i∈dd s n->i<n/\s.testBit i=true
 | 0,i,h=>by simp [dd] at h
 | n+1,i,h=>by
  simp only [dd] at h
  split at h
  ·rename_i ht
   rcases mem_append.1 h with h | h
   ·have:=CQ s n i h;exact ⟨by omega,this.2⟩
   ·have:i=n:=by simpa using h
    subst this;exact ⟨by omega,ht⟩
  ·have:=CQ s n i h;exact ⟨by omega,this.2⟩
theorem ND {s:Nat} {h:ae} {K:Value->ae->Prop} (hs:s<1024) (hk:∀v h',EX h h'->NS h' v .i64 ((dd s 10).map λi:Nat=>(i:Int))->K v h'):ak prog 74 [U s] h K:=by
 refine f74 ?_
 unfold P2
 refine dF (σ:=Nat×Value×ae) (λp=>[p.2.1,I p.1]) (λp=>p.2.2) (λp=>p.1<=10/\EX h p.2.2/\kK h.length p.2.2 3 p.2.1 ((dd s p.1).map λi:Nat=>I i)) (λp=>10-p.1)
  (0,.slice none 0 0,h) rfl rfl ⟨zero_le _,EX.refl _,.inl ⟨rfl,rfl⟩⟩ ?_
 rintro ⟨i,v,g⟩ ⟨hi,xg,jD⟩ L hL
 simp only at hi xg jD hL⊢
 have Tn:=FF s i
 rw [aIb]
 simp only [cW,ah,bQ]
 refine ⟨λaF=>?_,λcU=>?_⟩
 ·refine C98 (by omega) hs ?_
  refine BC (λht=>?_) λht=>?_
  ·refine aby jD xg (by simp;omega) (by simp [maxLen];omega) rfl rfl ?_
   intro v' g' xg' dX
   simp only [apW,cL,ah,ft i (by omega),true_and]
   refine hL (i+1,v',g') ⟨by show i+1<=10;omega,xg',?_⟩ (by show 10-(i+1)<10-i;omega)
   show kK h.length g' 3 v' ((dd s (i+1)).map λi:Nat=>I i)
   simp only [dd,ht,if_true,List.map_append,List.map_cons,List.map_nil]
   exact dX
  ·simp only [apW,cL,ah,ft i (by omega),true_and]
   refine hL (i+1,v,g) ⟨by show i+1<=10;omega,xg,?_⟩ (by show 10-(i+1)<10-i;omega)
   show kK h.length g 3 v ((dd s (i+1)).map λi:Nat=>I i)
   simp only [dd,ht,Bool.false_eq_true,if_false]
   exact jD
 ·have fZ:i=10:=by omega
  subst fZ
  rw [aIa]
  refine hk v g xg ?_
  rcases jD with ⟨h1,h2⟩ | ⟨a,_,h2,h3⟩
  ·have:dd s 10=[]:=by simpa using h2
   rw [this,h1]
   exact NS.nil g .i64
  ·rw [h2,length_map]
   have:=NS.sl (h:=g) (e:=3) (i:=a) (k:=.i64) (ns:=(dd s 10).map λi:Nat=>(i:Int)) (.inr (by simp [aW,h3])) (by simp [maxLen];omega)
   rw [length_map] at this
   exact this
def xf (js:List (Int×Int)) (l:List Nat):Int:=od l λi=>(js.getD i (0,0)).1
theorem aqz {α:Type} (f:α->Int) (l:List α) {j:Nat} (hj:j<l.length):od (l.take (j+1)) f=od (l.take j) f+f l[j]:=by
 rw [List.take_succ_eq_append_getElem hj,X9]
 simp [od]
theorem PS.getD {h:ae} {v:Value} {js:List (Int×Int)} (p:PS h v js) {i:Nat} (hi:i<js.length):∃b o,aZ 2 v (I i)=some (pt b o)/\af false 1 h (pt b o)=some (I (js.getD i (0,0)).1)/\af false 1 h (pt b (o+1))=some (I (js.getD i (0,0)).2)/\
  af true 2 h (pt b o)=some (.agg #[I (js.getD i (0,0)).1,I (js.getD i (0,0)).2]):=by
 obtain ⟨b,o,g1,g2,g3,g4⟩:=p.get i hi
 have e:js.getD i (0,0)=js[i]:=by simp [getD_eq_getElem?_getD,hi]
 rw [e]
 exact ⟨b,o,g1,g2,g3,g4⟩
def rA (js:List (Int×Int)):Prop:=∀j∈js,(1<=j.1/\j.1<=50)/\0<=j.2/\j.2<=50
theorem rA.getD {js:List (Int×Int)} (h:rA js) {i:Nat} (hi:i<js.length):(1<=(js.getD i (0,0)).1/\(js.getD i (0,0)).1<=50)/\0<=(js.getD i (0,0)).2/\(js.getD i (0,0)).2<=50:=by
 have e:js.getD i (0,0)=js[i]:=by simp [getD_eq_getElem?_getD,hi]
 rw [e];exact h _ (getElem_mem hi)
theorem aqx {js:List (Int×Int)} (h:rA js):∀l:List Nat,(∀i∈l,i<js.length)->0<=xf js l/\xf js l<=50*l.length
 | [],_=>by simp [xf,od]
 | i::l,hl=>by
  have ih:=aqx h l λx hx=>hl x (by simp [hx])
  have:=h.getD (hl i (by simp))
  unfold xf at ih⊢
  simp only [od,length_cons]
  omega
theorem Zs {p:Value} {js:List (Int×Int)} {bs:List Nat} {s:Nat} {h:ae} {K:Value->ae->Prop} (hp:PL h p js bs) (hj:rA js) (hl:js.length<=10) (hs:s<2^js.length) (hk:∀h',EX h h'->K (I (xf js (dd s 10))) h'):ak prog 62 [p,U s] h K:=by
 have aAY:(2:Nat)^js.length<=2^10:=pow_le_pow_right (by decide) hl
 refine f62 (ND (by omega) ?_)
 intro v g xg hn
 obtain ⟨a,vj,vb,rfl,hc,Ti,EN⟩:=hp.mono xg
 have aF:∀i∈dd s 10,i<js.length:=by
  intro i hi
  have h1:=(CQ s 10 i hi).2
  apply byContradiction
  intro cU
  have:s<2^i:=Nat.lt_of_lt_of_le hs (pow_le_pow_right (by decide) (by omega))
  rw [Nat.testBit_lt_two_pow this] at h1
  cases h1
 have Tn:=FF s 10
 have FE:bk v=some (I (dd s 10).length):=by have:=hn.len;rwa [length_map] at this
 simp only [FE,ah]
 refine dF (σ:=Nat) (λi=>[I (xf js ((dd s 10).take i)),I i]) (λ_=>g) (λi=>i<=(dd s 10).length) (λi=>(dd s 10).length-i) 0 rfl rfl (zero_le _) ?_
 intro i hi L hL
 rw [aHA]
 simp only [cW,ah,bQ]
 refine ⟨λmV=>?_,λcU=>?_⟩
 ·have bn:i<(dd s 10).length:=by omega
  obtain ⟨b,o,g1,g2⟩:=hn.get i (by simpa using bn)
  have e:((dd s 10).map λi:Nat=>(i:Int))[i]'(by simpa using bn)=((dd s 10)[i]:Int):=by simp
  rw [e] at g2
  have hm:=aF _ (getElem_mem bn)
  obtain ⟨c,q,r1,r2,r3,r4⟩:=PS.getD Ti hm
  have ld:af false 1 g (pt a 0)=some vj:=by simp [af,hc,cP]
  have bc:xf js ((dd s 10).take (i+1))=xf js ((dd s 10).take i)+(js.getD (dd s 10)[i] (0,0)).1:=by
   exact aqz _ _ bn
  have mE:=aqx hj ((dd s 10).take (i+1)) λx hx=>aF x (List.mem_of_mem_take hx)
  rw [List.length_take,bc] at mE
  simp only [g1,g2,ah,Ln,bZ,Nat.add_zero,ld,r1,r2,cL,ft i (by omega)]
  rw [wrap64 (by omega) (by omega),<-bc]
  simp only [true_and]
  exact hL (i+1) (by omega) (by omega)
 ·have fZ:i=(dd s 10).length:=by omega
  subst fZ
  rw [List.take_length,aHz]
  exact hk g xg
end
end Go.Proofs.YtelmdbpaoifmoaaGreat
namespace Go.Sim
section
def lC (n:Nat):Nat:=2^n-1
end
section
def wQ (js:List (Int×Int)) (i:Nat):Int:=(js.getD i (0,0)).1
def Bv (js:List (Int×Int)) (i:Nat):Int:=(js.getD i (0,0)).2
end
section
def CP (s:Nat):Nat->List Nat
 | 0=>[]
 | i+1=>if s.testBit i=true then CP s i++[i] else CP s i
end
section
theorem aAL (n:Nat):lC n<2^n:=by
 have:0<2^n:=Nat.pow_pos (by decide)
 unfold lC;omega
theorem Sq (n j:Nat):(lC n).testBit j=decide (j<n):=Nat.testBit_two_pow_sub_one n j
end
end Go.Sim
namespace Go.Proofs.YtelmdbpaoifmoaaGreat
open Go.Sim
section
theorem agE (n:Nat):HW n=lC n:=rfl
end
section
def xj (js:List (Int×Int)) (l:List Nat):Int:=od l λi=>(js.getD i (0,0)).2
theorem aqC {js:List (Int×Int)} (h:rA js):∀l:List Nat,(∀i∈l,i<js.length)->0<=xj js l/\xj js l<=50*l.length
 | [],_=>by simp [xj,od]
 | i::l,hl=>by
  have ih:=aqC h l λx hx=>hl x (by simp [hx])
  have:=h.getD (hl i (by simp))
  unfold xj at ih⊢
  simp only [od,length_cons]
  omega
theorem Zy {p:Value} {js:List (Int×Int)} {bs:List Nat} {s:Nat} {h:ae} {K:Value->ae->Prop} (hp:PL h p js bs) (hj:rA js) (hl:js.length<=10) (hs:s<2^js.length) (hk:∀h',EX h h'->K (I (xj js (dd s 10))) h'):ak prog 76 [p,U s] h K:=by
 have aAY:(2:Nat)^js.length<=2^10:=pow_le_pow_right (by decide) hl
 refine f76 (ND (by omega) ?_)
 intro v g xg hn
 obtain ⟨a,vj,vb,rfl,hc,Ti,EN⟩:=hp.mono xg
 have aF:∀i∈dd s 10,i<js.length:=by
  intro i hi
  have h1:=(CQ s 10 i hi).2
  apply byContradiction
  intro cU
  have:s<2^i:=Nat.lt_of_lt_of_le hs (pow_le_pow_right (by decide) (by omega))
  rw [Nat.testBit_lt_two_pow this] at h1
  cases h1
 have Tn:=FF s 10
 have FE:bk v=some (I (dd s 10).length):=by have:=hn.len;rwa [length_map] at this
 simp only [FE,ah]
 refine dF (σ:=Nat) (λi=>[I (xj js ((dd s 10).take i)),I i]) (λ_=>g) (λi=>i<=(dd s 10).length) (λi=>(dd s 10).length-i) 0 rfl rfl (zero_le _) ?_
 intro i hi L hL
 rw [aId]
 simp only [cW,ah,bQ]
 refine ⟨λmV=>?_,λcU=>?_⟩
 ·have bn:i<(dd s 10).length:=by omega
  obtain ⟨b,o,g1,g2⟩:=hn.get i (by simpa using bn)
  have e:((dd s 10).map λi:Nat=>(i:Int))[i]'(by simpa using bn)=((dd s 10)[i]:Int):=by simp
  rw [e] at g2
  have hm:=aF _ (getElem_mem bn)
  obtain ⟨c,q,r1,r2,r3,r4⟩:=PS.getD Ti hm
  have ld:af false 1 g (pt a 0)=some vj:=by simp [af,hc,cP]
  have bc:xj js ((dd s 10).take (i+1))=xj js ((dd s 10).take i)+(js.getD (dd s 10)[i] (0,0)).2:=by
   exact aqz _ _ bn
  have mE:=aqC hj ((dd s 10).take (i+1)) λx hx=>aF x (List.mem_of_mem_take hx)
  rw [List.length_take,bc] at mE
  simp only [g1,g2,ah,Ln,bZ,Nat.add_zero,ld,r1,r3,cL,ft i (by omega)]
  rw [wrap64 (by omega) (by omega),<-bc]
  simp only [true_and]
  exact hL (i+1) (by omega) (by omega)
 ·have fZ:i=(dd s 10).length:=by omega
  subst fZ
  rw [List.take_length,aIc]
  exact hk g xg
theorem Ny {v lo hi:Int} {h:ae} {K:Value->ae->Prop} (hk:K (B (decide (lo<=v)&&decide (v<=hi))) h):ak prog 46 [I v,I lo,I hi] h K:=by
 refine f46 ?_
 simp only [PC,nv,ah]
 by_cases h1:lo<=v
 ·rw [bj h1,Bool.true_and] at hk
  simp only [bj h1,apF,fP,sP,ah,apG,dY]
  exact hk
 ·rw [aY h1,Bool.false_and] at hk
  simp only [aY h1,apF,jV,ah,apG,dQ]
  exact hk
end
section
end
end Go.Proofs.YtelmdbpaoifmoaaGreat
namespace Go.Sim
section
def oC (a b:Nat):Nat:=a^^^(a &&& b)
theorem B7 (a b j:Nat):(oC a b).testBit j=(a.testBit j&& !b.testBit j):=by
 unfold oC
 rw [Nat.testBit_xor,testBit_and]
 cases a.testBit j <;> cases b.testBit j <;> rfl
theorem af0 (a b:Nat):oC a b<=a:=by
 have h:oC a b=a &&& oC a b:=by
  apply eq_of_testBit_eq
  intro j
  rw [testBit_and,B7]
  cases a.testBit j <;> cases b.testBit j <;> rfl
 rw [h]
 exact Nat.and_le_left
theorem af1 {a b:Nat}:oC a b=0↔kU a b=true:=by
 rw [vA]
 constructor
 ·intro h i hi
  have:=congrArg (λm=>m.testBit i) h
  simp only [B7,Nat.zero_testBit,hi,Bool.true_and] at this
  simpa using this
 ·intro h
  apply eq_of_testBit_eq
  intro j
  rw [B7,Nat.zero_testBit]
  cases hj:a.testBit j with
  | false=>rfl
  | true=>rw [h j hj];rfl
theorem abw {k:IntKind} (hk:SK k) {a b:Nat} (ha:a<1024) (hb:b<1024):ai .andNot (.int k (a:Int)) (.int k (b:Int))=some (.int k ((oC a b:Nat):Int)):=by
 have e:ai .andNot (.int k (a:Int)) (.int k (b:Int))=some (Value.int k (k.wrap ((BitVec.ofInt k.bits (a:Int) &&& ~~~BitVec.ofInt k.bits (b:Int)).toNat:Int))):=by simp [ai,iX]
 have h2:(BitVec.ofInt k.bits (a:Int) &&& ~~~BitVec.ofInt k.bits (b:Int))=BitVec.ofInt k.bits (a:Int)^^^(BitVec.ofInt k.bits (a:Int) &&& BitVec.ofInt k.bits (b:Int)):=by
  ext i hi
  simp only [BitVec.getElem_and,BitVec.getElem_not,BitVec.getElem_xor]
  generalize (BitVec.ofInt k.bits (a:Int))[i]=p
  generalize (BitVec.ofInt k.bits (b:Int))[i]=q
  cases p <;> cases q <;> rfl
 rw [e,h2,BitVec.toNat_xor,BitVec.toNat_and,hk.toNat ha,hk.toNat hb]
 have:=af0 a b
 unfold oC at this
 rw [hk.wrap (by omega) (by omega)]
 rfl
theorem abx {a b:Nat}:a &&& b=0↔∀j,a.testBit j=true->b.testBit j=false:=by
 constructor
 ·intro h j hj
  have:=congrArg (λm=>m.testBit j) h
  simp only [testBit_and,Nat.zero_testBit,hj,Bool.true_and] at this
  exact this
 ·intro h
  apply eq_of_testBit_eq
  intro j
  rw [testBit_and,Nat.zero_testBit]
  cases hj:a.testBit j with
  | false=>rfl
  | true=>rw [h j hj];rfl
end
end Go.Sim
namespace Go.Proofs.YtelmdbpaoifmoaaGreat
open Go.Sim
section
theorem rA.all {js:List (Int×Int)} (h:rA js) (i:Nat):(0<=wQ js i/\wQ js i<=50)/\0<=Bv js i/\Bv js i<=50:=by
 unfold wQ Bv
 by_cases hi:i<js.length
 ·have:=h.getD hi;omega
 ·have:js.getD i (0,0)=(0,0):=by
   simp only [getD_eq_getElem?_getD]
   rw [List.getElem?_eq_none (by omega)];rfl
  rw [this];simp
end
section
variable (P : Program) (K : VK)
noncomputable section
variable (p0 x3 s4 x7 x8 x9 mL au xJ xK aS aK b9 cG cM cX kf gC iF mO : Value) (L1 L2 : LQ) (xs : List Value) (h : ae)
def als:=bE prog 73 [[],[],[],[0,3,18],[19],[],[],[],[],[],[0,3,4,18,19,27,28],[29],[],[],[],[],[0,3,4,18,19,27,28,29],[0,3,18,19],[0,3],[],[],[0,3],[7,8],[],[],[],[],[0,3,7,8,54],[9],[],[],[],[0,3,7,8,9,10,54,64],[0,3,7,8,9,10,54,64,67],[],[],[],[],[0,3,7,8,9,11,12,13,54,89],[0,3,7,8,9,11,12,13,54,89,92],[],[],[0,3,7,8,9],[7],[]]
@[irreducible] def Jc:=bM als
@[irreducible] def Ri:=Jc.r.r.l.r.l.l
@[irreducible] def ae3:=Jc.r.r.r
@[irreducible] def ae1:=Ri.r.r.l.l.r.r.r.l.l
@[irreducible] def ae7:=Ri.r.r.r
@[irreducible] def Rf:=ae3.l
@[irreducible] def ax4:=ae1.r.r.r.l
@[irreducible] def ax5:=ae7.l
@[irreducible] def Rg:=Rf.r.l.r.l.l
@[irreducible] def ae2:=Rf.r.r
@[irreducible] def Jd:=Rg.r.l.r.l.r.l.l
@[irreducible] def ae4:=Rg.r.l.r.r
@[irreducible] def ayb:=ae2.l
@[irreducible] def ae5:=Jd.r.r.l.r.l.l.r.l
@[irreducible] def ax6:=Jd.r.r.l.r.l.r
@[irreducible] def Rh:=Jd.r.r.l.r.r
@[irreducible] def aya:=ae4.l
@[irreducible] def ax7:=ae5.r.l
@[irreducible] def ae6:=Rh.r.r.l.l.r.l
@[irreducible] def ax8:=Rh.r.r.l.r
@[irreducible] def ax9:=ae6.r.l
theorem k73:als=some (110,Jc,[.tmp 2]):=by kernel_rfl
def BK (_P:Program) (K:VK):ar:=aT [.tmp 2] K
def aun:ar:=aH (iY P ae3 (BK P K)) (BK P K)
def auq:ar:=bH 0 (aun P K)
def HF:ar:=aH (λf' aX=>(([0,3,18]:List Nat).map f':List Value)=[p0,x3,aS]/\L1 (([19]:List Nat).map f') aX) (auq P K)
def aur:ar:=aH (iY P ae7 (HF P K p0 x3 aS L1)) (HF P K p0 x3 aS L1)
def auj:ar:=bH 1 (aur P K p0 x3 aS L1)
def auk:ar:=bH 2 (auj P K p0 x3 aS L1)
def aaQ:ar:=aH (λf' aX=>(([0,3,4,18,19,27,28]:List Nat).map f':List Value)=[p0,x3,s4,aS,aK,b9,cG]/\L2 (([29]:List Nat).map f') aX) (auk P K p0 x3 aS L1)
def aul:ar:=aH (iY P ae2 (BK P K)) (BK P K)
def aum:ar:=bH 4 (aul P K)
def aaR:ar:=aH (λf' aX=>(([0,3]:List Nat).map f':List Value)=[p0,x3]/\L1 (([7,8]:List Nat).map f') aX) (aum P K)
def Om:ar:=bH 5 (aaR P K p0 x3 L1)
def auo:ar:=aH (iY P ae4 (Om P K p0 x3 L1)) (Om P K p0 x3 L1)
def aup:ar:=bH 6 (auo P K p0 x3 L1)
def aaS:ar:=aH (λf' aX=>(([0,3,7,8,54]:List Nat).map f':List Value)=[p0,x3,x7,x8,cX]/\L2 (([9]:List Nat).map f') aX) (aup P K p0 x3 L1)
def On:ar:=bH 7 (aaS P K p0 x3 x7 x8 cX L1 L2)
def aaT:ar:=aH (iY P Rh (On P K p0 x3 x7 x8 cX L1 L2)) (On P K p0 x3 x7 x8 cX L1 L2)
def aaU:ar:=aH (iY P ax6 (aaT P K p0 x3 x7 x8 cX L1 L2)) (aaT P K p0 x3 x7 x8 cX L1 L2)
def aaV:ar:=bH 8 (On P K p0 x3 x7 x8 cX L1 L2)
def aaW:ar:=aH (iY P ax8 (aaV P K p0 x3 x7 x8 cX L1 L2)) (aaV P K p0 x3 x7 x8 cX L1 L2)
def aoh:Prop:=ax (iY P Ri (HF P K p0 x3 aS L1)) ([0,3,18]++[19]) ([p0,x3,aS]++xs) h
def an8:Prop:=ax (iY P ae1 (aaQ P K p0 x3 s4 aS aK b9 cG L1 L2)) ([0,3,4,18,19,27,28]++[29]) ([p0,x3,s4,aS,aK,b9,cG]++xs) h
def WE:Prop:=ax (iY P ax4 (aaQ P K p0 x3 s4 aS aK b9 cG L1 L2)) [0,3,4,18,19,27,28,29] [p0,x3,s4,aS,aK,b9,cG,cM] h
def an9:Prop:=ax (iY P ax5 (HF P K p0 x3 aS L1)) [0,3,18,19] [p0,x3,aS,aK] h
def aoa:Prop:=ax (iY P Rf (BK P K)) [0,3] [p0,x3] h
def aob:Prop:=ax (iY P Rg (aaR P K p0 x3 L1)) ([0,3]++[7,8]) ([p0,x3]++xs) h
def aoc:Prop:=ax (iY P Jd (aaS P K p0 x3 x7 x8 cX L1 L2)) ([0,3,7,8,54]++[9]) ([p0,x3,x7,x8,cX]++xs) h
def aod:Prop:=ax (iY P ae5 (aaU P K p0 x3 x7 x8 cX L1 L2)) [0,3,7,8,9,10,54,64] [p0,x3,x7,x8,x9,mL,cX,kf] h
def WG:Prop:=ax (iY P ax7 (aaU P K p0 x3 x7 x8 cX L1 L2)) [0,3,7,8,9,10,54,64,67] [p0,x3,x7,x8,x9,mL,cX,kf,gC] h
def aoe:Prop:=ax (iY P ae6 (aaW P K p0 x3 x7 x8 cX L1 L2)) [0,3,7,8,9,11,12,13,54,89] [p0,x3,x7,x8,x9,au,xJ,xK,cX,iF] h
def WH:Prop:=ax (iY P ax9 (aaW P K p0 x3 x7 x8 cX L1 L2)) [0,3,7,8,9,11,12,13,54,89,92] [p0,x3,x7,x8,x9,au,xJ,xK,cX,iF,mO] h
def aof:Prop:=ax (iY P aya (Om P K p0 x3 L1)) [0,3,7,8,9] [p0,x3,x7,x8,x9] h
def aog:Prop:=ax (iY P ayb (BK P K)) [7] [x7] h
theorem apT:WE P K p0 x3 s4 aS aK b9 cG cM L1 L2 h=
 (OP (ai .add cM (.int .i64 (1))) λgO=>
 ([p0,x3,s4,aS,aK,b9,cG]:List Value)=[p0,x3,s4,aS,aK,b9,cG]/\L2 [gO] h):=az (by kernel_rfl)
theorem aH0 (p0 x3 s4 aS aK b9 cG:Value) (L1 L2:LQ) (cM:Value) (h:ae):an8 P K p0 x3 s4 aS aK b9 cG L1 L2 [cM] h=
 (OP (ai .lss cM cG) λdm=>
 aN dm
 (OP (aZ 1 b9 cM) λcC=>
 OP (af false 1 h cC) λbV=>
 OP (yC p0) λcK=>
 OP (aJ 1 cK) λdw=>
 OP (af false 1 h dw) λdc=>
 OP (aZ 1 dc bV) λdO=>
 OP (af false 1 h dO) λeY=>
 OP (dG .u16 s4) λdW=>
 OP (ai .andNot eY dW) λeO=>
 OP (ai .neq eO (.int .u16 (0))) λcj=>
 aN cj
 (OP (dG .u16 s4) λcI=>
 OH (Ve (.int .u16) h x3 cI) λ_ z1=>
 WE P K p0 x3 s4 aS aK b9 cG cM L1 L2 z1)
 (WE P K p0 x3 s4 aS aK b9 cG cM L1 L2 h))
 (an9 P K p0 x3 aS aK L1 h)):=az (by kernel_rfl)
theorem aH1:an9 P K p0 x3 aS aK L1 h=
 (OP (ai .add aK (.int .i64 (1))) λfE=>
 ([p0,x3,aS]:List Value)=[p0,x3,aS]/\L1 [fE] h):=az (by kernel_rfl)
theorem aH9 (p0 x3 aS:Value) (L1:LQ) (aK:Value) (h:ae):aoh P K p0 x3 aS L1 [aK] h=
 (OP (ai .lss aK aS) λaU=>
 aN aU
 (OP (dG .u16 aK) λbL=>
 OH (wV (.int .u16) h x3 bL (.bool true)) λ_ z1=>
 OP (dG .u16 aK) λcV=>
 ak P 74 [cV] z1 λb9 z2=>
 OP (bk b9) λcG=>
 cO [(.int .i64 (0))] z2 λL2 xs hx=>
 an8 P K p0 x3 aK aS aK b9 cG L1 L2 xs hx)
 (aoa P K p0 x3 h)):=az (by kernel_rfl)
theorem apU:WG P K p0 x3 x7 x8 x9 mL cX kf gC L1 L2 h=
 (OP (bF kf (.bool true) gC) λfw=>
 aN fw
 (([p0,x3,x7,x8,cX]:List Value)=[p0,x3,x7,x8,cX]/\L2 [x9] h)
 (OP (ai .andNot mL x8) λiD=>
 ak P 76 [p0,iD] h λfF z1=>
 ak P 62 [p0,x9] z1 λil z2=>
 OP (ai .mul fF il) λfJ=>
 ak P 76 [p0,x9] z2 λjT z3=>
 ak P 62 [p0,iD] z3 λeB z4=>
 OP (ai .mul jT eB) λtX=>
 OP (ai .eql x9 (.int .u16 (0))) λgH=>
 aoe P K p0 x3 x7 x8 x9 iD fJ tX cX gH L1 L2 z4)):=az (by kernel_rfl)
theorem aH5:aod P K p0 x3 x7 x8 x9 mL cX kf L1 L2 h=
 (ck kf false
 (OP (ai .eql mL x8) λgC=>
 WG P K p0 x3 x7 x8 x9 mL cX kf gC L1 L2 h)
 (WG P K p0 x3 x7 x8 x9 mL cX kf undef L1 L2 h)):=az (by kernel_rfl)
theorem apV:WH P K p0 x3 x7 x8 x9 au xJ xK cX iF mO L1 L2 h=
 (OP (bF iF (.bool true) mO) λpa=>
 aN pa
 (([p0,x3,x7,x8,cX]:List Value)=[p0,x3,x7,x8,cX]/\L2 [au] h)
 (OP (ai .eql xJ xK) λnK=>
 aN nK
 (OP (ai .or x9 au) λGN=>
 ([p0,x3,x7,x8,cX]:List Value)=[p0,x3,x7,x8,cX]/\L2 [GN] h)
 (([p0,x3,x7,x8,cX]:List Value)=[p0,x3,x7,x8,cX]/\L2 [x9] h))):=az (by kernel_rfl)
theorem aH6:aoe P K p0 x3 x7 x8 x9 au xJ xK cX iF L1 L2 h=
 (ck iF false
 (OP (ai .gtr xJ xK) λmO=>
 WH P K p0 x3 x7 x8 x9 au xJ xK cX iF mO L1 L2 h)
 (WH P K p0 x3 x7 x8 x9 au xJ xK cX iF undef L1 L2 h)):=az (by kernel_rfl)
theorem aH4 (p0 x3 x7 x8 cX:Value) (L1 L2:LQ) (x9:Value) (h:ae):aoc P K p0 x3 x7 x8 cX L1 L2 [x9] h=
 (DR (Bc h cX) λhI z1=>
 OP (cD 0 hI) λiT=>
 aN iT
 (OP (AO z1 cX) λee=>
 OP (cD 0 ee) λfO=>
 OP (ai .and fO x8) λfI=>
 OP (ai .neq fI x8) λhO=>
 aod P K p0 x3 x7 x8 x9 fO cX hO L1 L2 z1)
 (aof P K p0 x3 x7 x8 x9 L1 z1)):=az (by kernel_rfl)
theorem aH7:aof P K p0 x3 x7 x8 x9 L1 h=
 (OH (dN 131 1 [(.int .u16 (0))] h [(0,1,x9)]) λBx z1=>
 OH (eG 131 1 2 z1 x7 Bx) λGO z2=>
 OP (ai .or x8 x9) λtW=>
 ([p0,x3]:List Value)=[p0,x3]/\L1 [GO,tW] z2):=az (by kernel_rfl)
theorem aH3 (p0 x3:Value) (L1:LQ) (x7 x8:Value) (h:ae):aob P K p0 x3 L1 [x7,x8] h=
 (ak P 61 [p0] h λcg z1=>
 OP (ai .neq x8 cg) λde=>
 aN de
 (OH (CH z1 x3) λcX z2=>
 cO [(.int .u16 (0))] z2 λL2 xs hx=>
 aoc P K p0 x3 x7 x8 cX L1 L2 xs hx)
 (aog P K x7 z1)):=az (by kernel_rfl)
theorem aH8:aog P K x7 h=
 (K x7 h):=az (by kernel_rfl)
theorem aH2:aoa P K p0 x3 h=
 (cO [(.slice none 0 0),(.int .u16 (0))] h λL1 xs hx=>
 aob P K p0 x3 L1 xs hx):=az (by kernel_rfl)
def P0:Prop:=
 OH (tF (.int .u16) h) λaA z1=>
 ak P 61 [p0] z1 λaL z2=>
 OP (dG .i64 aL) λbK=>
 OP (ai .add bK (.int .i64 (1))) λaS=>
 cO [(.int .i64 (0))] z2 λL1 xs hx=>
 aoh P K p0 aA aS L1 xs hx
theorem e73:iY P Jc (aT [.tmp 2] K) (bw [p0]) h=P0 P K p0 h:=by kernel_rfl
theorem f73 {K:VK} {p0:Value} {h:ae} (H:P0 prog K p0 h):DF prog 73 [p0] h K:=
 ayQ k73 (bJ rfl) ((e73 prog K p0 h).mpr H)
end
end
end Go.Proofs.YtelmdbpaoifmoaaGreat
namespace Go.Sim
section
def m9 (f:Nat->Int) (s:Nat):Nat->Int
 | 0=>0
 | i+1=>m9 f s i+if s.testBit i=true then f i else 0
theorem MW (f:Nat->Int) (s:Nat):∀n,od (CP s n) f=m9 f s n
 | 0=>rfl
 | n+1=>by
  simp only [CP,m9]
  split
  ·rw [X9,MW f s n];simp [od]
  ·rw [MW f s n];simp
theorem X3 (f:Nat->Int) (a b:Nat):∀n,m9 f (a ||| b) n+m9 f (a &&& b) n=m9 f a n+m9 f b n
 | 0=>rfl
 | n+1=>by
  have h:=X3 f a b n
  simp only [m9,testBit_or,testBit_and]
  cases a.testBit n <;> cases b.testBit n <;> simp <;> omega
theorem X7 (f:Nat->Int):∀n,m9 f 0 n=0
 | 0=>rfl
 | n+1=>by simp [m9,X7 f n]
theorem MX {f:Nat->Int} (h:∀i,0<=f i) (s:Nat):∀n,0<=m9 f s n
 | 0=>Int.le_refl 0
 | n+1=>by
  have:=MX h s n
  have:=h n
  simp only [m9]
  split <;> omega
theorem X2 {f:Nat->Int} {c:Int} (h:∀i,0<=f i/\f i<=c) (s:Nat):∀n:Nat,m9 f s n<=c*n
 | 0=>by simp [m9]
 | n+1=>by
  have h1:=X2 h s n
  have h2:=h n
  have:c*((n+1:Nat):Int)=c*n+c:=by rw [Int.natCast_add,Int.mul_add];simp
  simp only [m9]
  split <;> omega
theorem aqv {f:Nat->Int} (h0:∀i,0<=f i) {s i:Nat} (hb:s.testBit i=true) (h1:1<=f i):∀{n:Nat},i<n->1<=m9 f s n
 | n+1,hi=>by
  simp only [m9]
  by_cases e:i=n
  ·subst e
   have:=MX h0 s i
   rw [hb];simp;omega
  ·have:=aqv h0 hb h1 (n:=n) (by omega)
   have:=h0 n
   split <;> omega
def rK (bs:List Nat) (n s:Nat):Bool:=(List.range n).all λi=> !s.testBit i||kU (bs.getD i 0) s
theorem xR {bs:List Nat} {n s:Nat}:rK bs n s=true↔∀i,i<n->s.testBit i=true->∀j,(bs.getD i 0).testBit j=true->s.testBit j=true:=by
 unfold rK
 rw [List.all_eq_true]
 constructor
 ·intro h i hi hb
  have:=h i (mem_range.2 hi)
  rw [hb,Bool.not_true,Bool.false_or,vA] at this
  exact this
 ·intro h i hi
  rw [mem_range] at hi
  cases hb:s.testBit i with
  | false=>rfl
  | true=>rw [Bool.not_true,Bool.false_or,vA];exact h i hi hb
structure iu (bs:List Nat) (n d m:Nat):Prop where
 lt:m<2^n
 ne:m≠0
 apart:d &&& m=0
 cl:rK bs n (d ||| m)=true
def lS (js:List (Int×Int)) (s:Nat):Int:=m9 (wQ js) s 10
def wS (js:List (Int×Int)) (s:Nat):Int:=m9 (Bv js) s 10
def pj (bs:List Nat) (js:List (Int×Int)) (n d m:Nat):Prop:=iu bs n d m/\∀x,iu bs n d x->wS js x*lS js m<=wS js m*lS js x
def zl (bs:List Nat) (js:List (Int×Int)) (n d b:Nat):Prop:=pj bs js n d b/\∀m,pj bs js n d m->kU m b=true
theorem aJ7 {a b:Nat} (h:kU a b=true) (k:kU b a=true):a=b:=by
 rw [vA] at h k
 apply eq_of_testBit_eq
 intro i
 cases ha:a.testBit i with
 | true=>rw [h i ha]
 | false=>
  cases hb:b.testBit i with
  | true=>rw [k i hb] at ha;cases ha
  | false=>rfl
theorem zl.uniq {bs:List Nat} {js:List (Int×Int)} {n d a b:Nat} (h:zl bs js n d a) (k:zl bs js n d b):a=b:=aJ7 (k.2 a h.1) (h.2 b k.1)
structure vJ (js:List (Int×Int)) (n:Nat):Prop where
 l0:∀i,0<=wQ js i
 l1:∀i,i<n->1<=wQ js i
 w0:∀i,0<=Bv js i
theorem QC {s:Nat} (h:s≠0):∃i,s.testBit i=true:=Nat.exists_testBit_of_ne_zero h
theorem BV {s n i:Nat} (hs:s<2^n) (hb:s.testBit i=true):i<n:=by
 apply byContradiction
 intro cU
 rw [Nat.testBit_lt_two_pow (Nat.lt_of_lt_of_le hs (pow_le_pow_right (by decide) (by omega)))] at hb
 cases hb
theorem CN {js:List (Int×Int)} {n s:Nat} (h:vJ js n) (hn:n<=10) (hs:s<2^n) (h0:s≠0):1<=lS js s:=by
 obtain ⟨i,hi⟩:=QC h0
 have fK:=BV hs hi
 exact aqv h.l0 hi (h.l1 i fK) (by omega)
theorem au0 {d a b:Nat} (ha:d &&& a=0) (hb:d &&& b=0):d &&& (a ||| b)=0:=by
 rw [abx] at ha hb⊢
 intro j hj
 rw [testBit_or,ha j hj,hb j hj];rfl
theorem iu.or {bs:List Nat} {n d a b:Nat} (ha:iu bs n d a) (hb:iu bs n d b):iu bs n d (a ||| b):=by
 refine ⟨Nat.or_lt_two_pow ha.lt hb.lt,?_,au0 ha.apart hb.apart,?_⟩
 ·intro h
  have h1:a<=a ||| b:=Nat.left_le_or
  have:=ha.ne
  omega
 ·have h1:=xR.1 ha.cl
  have h2:=xR.1 hb.cl
  refine xR.2 λi hi SP j hj=>?_
  rw [testBit_or,testBit_or] at SP⊢
  by_cases hx:(d ||| a).testBit i=true
  ·have:=h1 i hi hx j hj
   rw [testBit_or] at this
   cases hd:d.testBit j <;> cases hA:a.testBit j <;> cases hB:b.testBit j <;> simp_all
  ·have cE:(d ||| b).testBit i=true:=by
    rw [testBit_or] at hx⊢
    cases hd:d.testBit i <;> cases hA:a.testBit i <;> cases hB:b.testBit i <;> simp_all
   have:=h2 i hi cE j hj
   rw [testBit_or] at this
   cases hd:d.testBit j <;> cases hA:a.testBit j <;> cases hB:b.testBit j <;> simp_all
theorem iu.and {bs:List Nat} {n d a b:Nat} (ha:iu bs n d a) (hb:iu bs n d b) (h0:a &&& b≠0):iu bs n d (a &&& b):=by
 refine ⟨Nat.and_lt_two_pow _ hb.lt,h0,?_,?_⟩
 ·have h1:=ha.apart
  rw [abx] at h1⊢
  intro j hj
  rw [testBit_and,h1 j hj];rfl
 ·have h1:=xR.1 ha.cl
  have h2:=xR.1 hb.cl
  refine xR.2 λi hi SP j hj=>?_
  rw [testBit_or,testBit_and] at SP⊢
  have q1:(d ||| a).testBit i=true:=by
   rw [testBit_or]
   cases hd:d.testBit i <;> cases hA:a.testBit i <;> cases hB:b.testBit i <;> simp_all
  have q2:(d ||| b).testBit i=true:=by
   rw [testBit_or]
   cases hd:d.testBit i <;> cases hA:a.testBit i <;> cases hB:b.testBit i <;> simp_all
  have r1:=h1 i hi q1 j hj
  have r2:=h2 i hi q2 j hj
  rw [testBit_or] at r1 r2
  cases hd:d.testBit j <;> cases hA:a.testBit j <;> cases hB:b.testBit j <;> simp_all
section
variable {bs : List Nat} {js : List (Int × Int)} {n d : Nat}
theorem afS {w1 l1 w2 l2 w3 l3:Int} (p1:1<=l1) (p2:1<=l2) (p3:1<=l3) (h:w1*l2<=w2*l1) (k:w2*l3<=w3*l2):w1*l3<=w3*l1:=by
 have h1:w1*l2*l3<=w2*l1*l3:=Int.mul_le_mul_of_nonneg_right h (by omega)
 have h2:w2*l3*l1<=w3*l2*l1:=Int.mul_le_mul_of_nonneg_right k (by omega)
 have e1:w2*l1*l3=w2*l3*l1:=by rw [mul_assoc,Int.mul_comm l1 l3,<-mul_assoc]
 have e2:w1*l2*l3=w1*l3*l2:=by rw [mul_assoc,Int.mul_comm l2 l3,<-mul_assoc]
 have e3:w3*l2*l1=w3*l1*l2:=by rw [mul_assoc,Int.mul_comm l2 l1,<-mul_assoc]
 have h3:w1*l3*l2<=w3*l1*l2:=by omega
 exact Int.le_of_mul_le_mul_right h3 (by omega)
theorem pj.aAj {a b:Nat} (ha:pj bs js n d a) (hb:pj bs js n d b):wS js a*lS js b=wS js b*lS js a:=
 Int.le_antisymm (hb.2 a ha.1) (ha.2 b hb.1)
theorem pj.same (P:vJ js n) (hn:n<=10) {a b:Nat} (ha:pj bs js n d a) (hb:iu bs n d b) (h:wS js a*lS js b<=wS js b*lS js a):pj bs js n d b:=by
 refine ⟨hb,λx hx=>?_⟩
 exact afS (CN P hn hx.lt hx.ne) (CN P hn ha.1.lt ha.1.ne) (CN P hn hb.lt hb.ne) (ha.2 x hx) h
theorem pj.or (P:vJ js n) (hn:n<=10) {a b:Nat} (ha:pj bs js n d a) (hb:pj bs js n d b):pj bs js n d (a ||| b):=by
 refine ha.same P hn (ha.1.or hb.1) ?_
 have ew:=X3 (Bv js) a b 10
 have el:=X3 (wQ js) a b 10
 have e:=ha.aAj hb
 have hand:wS js (a &&& b)*lS js a<=wS js a*lS js (a &&& b):=by
  by_cases h0:a &&& b=0
  ·rw [h0]
   have:wS js 0=0:=X7 _ _
   have e2:lS js 0=0:=X7 _ _
   rw [this,e2];simp
  ·exact ha.2 _ (ha.1.and hb.1 h0)
 have e1:wS js (a ||| b)=wS js a+wS js b-wS js (a &&& b):=by unfold wS;omega
 have e2:lS js (a ||| b)=lS js a+lS js b-lS js (a &&& b):=by unfold lS;omega
 rw [e1,e2,Int.mul_sub,Int.mul_add,Int.sub_mul,Int.add_mul]
 omega
theorem aAq (P:vJ js n) (hn:n<=10) {m:Nat} (hm:iu bs n d m):∃a,pj bs js n d a:=by
 have key:∀k,(∃a,a<k/\iu bs n d a)->∃a,a<k/\iu bs n d a/\∀x,x<k->iu bs n d x->wS js x*lS js a<=wS js a*lS js x:=by
  intro k
  induction k with
  | zero=>rintro ⟨a,h,_⟩;omega
  | succ k ih=>
   rintro ⟨a,ha,hr⟩
   by_cases tn:∃a,a<k/\iu bs n d a
   ·obtain ⟨b,hb,qX,pE⟩:=ih tn
    by_cases hk:iu bs n d k/\wS js b*lS js k<wS js k*lS js b
    ·refine ⟨k,by omega,hk.1,λx hx yv=>?_⟩
     by_cases Fq:x=k
     ·subst Fq;exact Int.le_refl _
     ·exact afS (CN P hn yv.lt yv.ne) (CN P hn qX.lt qX.ne) (CN P hn hk.1.lt hk.1.ne) (pE x (by omega) yv) (Int.le_of_lt hk.2)
    ·refine ⟨b,by omega,qX,λx hx yv=>?_⟩
     by_cases Fq:x=k
     ·subst Fq
      apply byContradiction
      intro hc
      exact hk ⟨yv,by omega⟩
     ·exact pE x (by omega) yv
   ·have hak:a=k:=by
     apply byContradiction
     intro bt
     exact tn ⟨a,by omega,hr⟩
    subst hak
    refine ⟨a,by omega,hr,λx hx yv=>?_⟩
    by_cases Fq:x=a
    ·subst Fq;exact Int.le_refl _
    ·exact absurd ⟨x,by omega,yv⟩ tn
 obtain ⟨a,_,hr,pE⟩:=key (2^n) ⟨m,hm.lt,hm⟩
 exact ⟨a,hr,λx hx=>pE x hx.lt hx⟩
structure nt (bs:List Nat) (js:List (Int×Int)) (n d:Nat) (Sn:Nat->Prop) (bU:Nat):Prop where
 rel:bU≠0->iu bs n d bU
 none:bU=0->∀m,Sn m->¬iu bs n d m
 max:∀m,Sn m->pj bs js n d m->pj bs js n d bU/\kU m bU=true
theorem aKa (a:Nat):kU a a=true:=vA.2 λ_ h=>h
theorem aJ8 (a b:Nat):kU a (a ||| b)=true:=vA.2 λ_ h=>by rw [testBit_or,h];rfl
theorem aJ9 (a b:Nat):kU b (a ||| b)=true:=vA.2 λ_ h=>by rw [testBit_or,h];simp
theorem aKb {a b c:Nat} (h:kU a b=true) (k:kU b c=true):kU a c=true:=by
 rw [vA] at h k⊢
 exact λi hi=>k i (h i hi)
theorem nt.take (_:vJ js n) (_:n<=10) {Sn:Nat->Prop} {bU m:Nat} (h:nt bs js n d Sn bU) (hm:iu bs n d m) (hb:bU=0∨wS js bU*lS js m<wS js m*lS js bU):nt bs js n d (λx=>Sn x∨x=m) m:=by
 refine ⟨λ_=>hm,λh0=>absurd h0 hm.ne,λx hx pE=>?_⟩
 rcases hx with hx | rfl
 ·exfalso
  rcases hb with hb | hb
  ·exact h.none hb x hx pE.1
  ·have:=(h.max x hx pE).1.2 m hm
   omega
 ·exact ⟨pE,aKa _⟩
theorem nt.join (P:vJ js n) (hn:n<=10) {Sn:Nat->Prop} {bU m:Nat} (h:nt bs js n d Sn bU) (hm:iu bs n d m) (h0:bU≠0) (hb:wS js bU*lS js m=wS js m*lS js bU):nt bs js n d (λx=>Sn x∨x=m) (bU ||| m):=by
 have hr:=(h.rel h0).or hm
 refine ⟨λ_=>hr,λh1=>absurd h1 hr.ne,λx hx pE=>?_⟩
 rcases hx with hx | rfl
 ·obtain ⟨q1,q2⟩:=h.max x hx pE
  exact ⟨q1.or P hn (q1.same P hn hm (Int.le_of_eq hb)),aKb q2 (aJ8 _ _)⟩
 ·have q1:=pE.same P hn (h.rel h0) (Int.le_of_eq hb.symm)
  exact ⟨q1.or P hn pE,aJ9 _ _⟩
theorem nt.pass (_:vJ js n) (_:n<=10) {Sn:Nat->Prop} {bU m:Nat} (h:nt bs js n d Sn bU) (hm:iu bs n d m) (h0:bU≠0) (hb:wS js m*lS js bU<wS js bU*lS js m):nt bs js n d (λx=>Sn x∨x=m) bU:=by
 refine ⟨h.rel,λh1=>absurd h1 h0,λx hx pE=>?_⟩
 rcases hx with hx | rfl
 ·exact h.max x hx pE
 ·have:=pE.2 bU (h.rel h0)
  omega
theorem nt.all (P:vJ js n) (hn:n<=10) {Sn:Nat->Prop} {bU m:Nat} (h:nt bs js n d Sn bU) (gy:∀x,iu bs n d x->Sn x) (hm:iu bs n d m):zl bs js n d bU:=by
 obtain ⟨a,ha⟩:=aAq P hn hm
 exact ⟨(h.max a (gy a ha.1) ha).1,λx hx=>(h.max x (gy x hx.1) hx).2⟩
end
end
section
def ui (bs:List Nat) (js:List (Int×Int)) (n:Nat):Nat->List Nat->Prop
 | d,[]=>d=lC n
 | d,b::l=>zl bs js n d b/\ui bs js n (d ||| b) l
theorem iu.aj1 {bs:List Nat} {n m:Nat}:¬iu bs n (lC n) m:=by
 intro h
 obtain ⟨i,hi⟩:=QC h.ne
 have fK:=BV h.lt hi
 have:(lC n &&& m).testBit i=true:=by rw [testBit_and,Sq,hi];simp [fK]
 rw [h.apart] at this
 simp at this
theorem ui.uniq {bs:List Nat} {js:List (Int×Int)} {n:Nat}:∀{l l':List Nat} {d:Nat},ui bs js n d l->ui bs js n d l'->l=l'
 | [],[],_,_,_=>rfl
 | [],b::l',d,h,k=>by
  have h':d=lC n:=h
  subst h'
  exact absurd k.1.1.1 iu.aj1
 | b::l,[],d,h,k=>by
  have k':d=lC n:=k
  subst k'
  exact absurd h.1.1.1 iu.aj1
 | b::l,b'::l',d,h,k=>by
  have e:=h.1.uniq k.1
  subst e
  rw [ui.uniq h.2 k.2]
theorem nt.congr {bs:List Nat} {js:List (Int×Int)} {n d:Nat} {Sn Sn':Nat->Prop} {bU:Nat} (h:nt bs js n d Sn bU) (e:∀x,Sn' x->Sn x):nt bs js n d Sn' bU:=
 ⟨h.rel,λhb m hm=>h.none hb m (e m hm),λm hm=>h.max m (e m hm)⟩
theorem nt.start (bs:List Nat) (js:List (Int×Int)) (n d:Nat) {Sn:Nat->Prop} (h:∀x,¬Sn x):nt bs js n d Sn 0:=
 ⟨λh0=>absurd rfl h0,λ_ m hm=>absurd hm (h m),λm hm=>absurd hm (h m)⟩
theorem ayY {bs:List Nat} {n:Nat} (hb:∀b∈bs,b<2^n):rK bs n (lC n)=true:=by
 rw [xR]
 intro i hi _ j hj
 rw [Sq]
 have:bs.getD i 0<2^n:=by
  by_cases h:i<bs.length
  ·have e:bs.getD i 0=bs[i]:=by simp [getD_eq_getElem?_getD,h]
   rw [e];exact hb _ (getElem_mem h)
  ·have e:bs.getD i 0=0:=by simp only [getD_eq_getElem?_getD];rw [List.getElem?_eq_none (by omega)];rfl
   rw [e];exact Nat.pow_pos (by decide)
 exact bj (BV this hj)
theorem alW {d s:Nat} (h:s &&& d=d):d ||| oC s d=s:=by
 apply eq_of_testBit_eq
 intro i
 have:=congrArg (Nat.testBit · i) h
 simp only [testBit_and] at this
 rw [testBit_or,B7]
 cases hs:s.testBit i <;> cases hd:d.testBit i <;> simp_all
theorem ap6 {bs:List Nat} {n d s:Nat} (hs:s<2^n) (hc:rK bs n s=true) (h:s &&& d=d) (bt:s≠d):iu bs n d (oC s d):=by
 refine ⟨Nat.lt_of_le_of_lt (af0 _ _) hs,λh0=>?_,?_,by rw [alW h];exact hc⟩
 ·apply bt
  have e:=alW h
  rw [h0,Nat.or_zero] at e
  exact e.symm
 ·apply eq_of_testBit_eq
  intro i
  rw [testBit_and,B7]
  cases d.testBit i <;> simp
theorem alQ {bs:List Nat} {n d m:Nat} (hd:d<2^n) (h:iu bs n d m):(d ||| m<2^n/\rK bs n (d ||| m)=true)/\((d ||| m) &&& d=d/\d ||| m≠d)/\m=oC (d ||| m) d:=by
 have hb:∀i,m.testBit i=true->d.testBit i=false:=λi hi=>by
  cases nQ:d.testBit i with
  | false=>rfl
  | true=>
   have:(d &&& m).testBit i=true:=by rw [testBit_and,hi,nQ];rfl
   rw [h.apart] at this
   simp at this
 refine ⟨⟨Nat.or_lt_two_pow hd h.lt,h.cl⟩,⟨?_,λhe=>?_⟩,?_⟩
 ·apply eq_of_testBit_eq
  intro i
  rw [testBit_and,testBit_or]
  cases d.testBit i <;> simp
 ·obtain ⟨i,hi⟩:=QC h.ne
  have h2:(d ||| m).testBit i=true:=by rw [testBit_or,hi];simp
  rw [he,hb i hi] at h2
  cases h2
 ·apply eq_of_testBit_eq
  intro i
  rw [B7,testBit_or]
  cases hi:m.testBit i with
  | true=>rw [hb i hi];rfl
  | false=>cases d.testBit i <;> rfl
theorem aIJ {bs:List Nat} {n d:Nat} (hb:∀b∈bs,b<2^n) (hd:d<lC n):iu bs n d (oC (lC n) d):=by
 have hf:lC n<2^n:=aAL n
 refine ap6 hf (ayY hb) ?_ (by omega)
 apply eq_of_testBit_eq
 intro i
 rw [testBit_and,Sq]
 cases hi:d.testBit i with
 | false=>simp
 | true=>
  have:=BV (Nat.lt_trans hd hf) hi
  simp [this]
theorem zl.step {bs:List Nat} {js:List (Int×Int)} {n d b:Nat} (hd:d<2^n) (h:zl bs js n d b):d<d ||| b/\d ||| b<2^n/\b<2^n:=by
 obtain ⟨⟨h1,_⟩,⟨h2,h3⟩,_⟩:=alQ hd h.1.1
 have hle:d<=d ||| b:=Nat.left_le_or
 exact ⟨by omega,h1,h.1.1.lt⟩
def kA (bs:List Nat) (n k:Nat):List Nat:=(List.range k).filter (rK bs n)
theorem arH (bs:List Nat) (n k:Nat):kA bs n (k+1)=if rK bs n k=true then kA bs n k++[k] else kA bs n k:=by
 unfold kA
 rw [List.range_succ,List.filter_append]
 by_cases h:rK bs n k=true
 ·rw [if_pos h];simp [h]
 ·rw [if_neg h];simp [h]
theorem NI {bs:List Nat} {n k s:Nat} (h:s∈kA bs n k):s<k/\rK bs n s=true:=by
 have:=mem_filter.1 h
 exact ⟨mem_range.1 this.1,this.2⟩
theorem arG {bs:List Nat} {n k s:Nat} (h1:s<k) (h2:rK bs n s=true):s∈kA bs n k:=mem_filter.2 ⟨mem_range.2 h1,h2⟩
def fC (k:IntKind) (l:List Nat):List (Nat×Value×Value):=l.map λs=>(s,.int k (s:Int),B true)
theorem SD (k:IntKind) (a b:Nat):mC (.int k (a:Int)) (.int k (b:Int))=decide (a=b):=by
 simp only [mC,yE,decide_true,Bool.true_and]
 by_cases h:a=b
 ·rw [bj h,bj (by omega)]
 ·rw [aY h,aY (by omega)]
theorem W3 (k:IntKind) (s:Nat):∀{l:List Nat},s∉l->mK (.int k (s:Int)) (fC k l)=none
 | [],_=>rfl
 | a::l,h=>by
  have h1:s≠a:=λe=>h (by simp [e])
  have h2:s∉l:=λe=>h (by simp [e])
  have ih:=W3 k s h2
  show (if mC (.int k (s:Int)) (.int k (a:Int))=true then some 0 else (mK (.int k (s:Int)) (fC k l)).map (·+1))=none
  rw [SD,aY h1,ih]
  rfl
theorem aoV (k:IntKind) (s:Nat):∀{l:List Nat},s∉l->mK (.int k (s:Int)) (fC k (l++[s]))=some l.length
 | [],_=>by
  show (if mC (.int k (s:Int)) (.int k (s:Int))=true then some 0 else _)=_
  rw [SD];simp
 | a::l,h=>by
  have h1:s≠a:=λe=>h (by simp [e])
  have h2:s∉l:=λe=>h (by simp [e])
  have ih:=aoV k s h2
  show (if mC (.int k (s:Int)) (.int k (a:Int))=true then some 0 else (mK (.int k (s:Int)) (fC k (l++[s]))).map (·+1))=_
  rw [SD,aY h1,ih]
  rfl
theorem ajx (k:IntKind) (l m:List Nat):fC k (l++m)=fC k l++fC k m:=by simp [fC]
theorem ajy (k:IntKind) (l:List Nat):(fC k l).length=l.length:=by simp [fC]
theorem aqq (k:IntKind) {s:Nat} {l:List Nat} (h:s∉l):ju s (.int k (s:Int)) (B true) (fC k l)=fC k (l++[s])/\kN s (.int k (s:Int)) (fC k l)=s+1:=by
 unfold ju kN
 rw [W3 k s h,ajx]
 exact ⟨rfl,rfl⟩
theorem aAk (k:IntKind) {s:Nat} {l:List Nat} (h:s∉l):rN (.int k (s:Int)) (fC k (l++[s]))=fC k l:=by
 unfold rN
 rw [aoV k s h]
 simp only
 rw [ajx,List.eraseIdx_append_of_length_le (by rw [ajy];exact le_refl _),ajy]
 simp [fC]
theorem aAl (k:IntKind) {s:Nat} {l:List Nat} (h:s∉l):rN (.int k (s:Int)) (fC k l)=fC k l:=by
 unfold rN
 rw [W3 k s h]
theorem agx (k:IntKind) (s:Nat):∀{l:List Nat},s∈l->(fC k l).find? (λe=>e.1==s)=some (s,.int k (s:Int),B true)
 | a::l,h=>by
  by_cases e:a=s
  ·subst e;simp [fC]
  ·have h2:s∈l:=by rcases mem_cons.1 h with h | h;exact absurd h.symm e;exact h
   have ih:=agx k s h2
   have e2:(a==s)=false:=by simpa using e
   rw [show fC k (a::l)=(a,.int k (a:Int),B true)::fC k l from rfl,List.find?_cons]
   simp only [e2]
   exact ih
theorem aEi {h:ae} {im it c:Nat} {k:IntKind} {l seen:List Nat} (hm:h[im]?=some (.cw (.int k) c (fC k l))) (hi:h[it]?=some (.iter im c seen c)) (hl:∀s∈l,s<c):
  Bc h (pt it 0)=some ((if (l.filter λs=> !seen.contains s).isEmpty=true then [(.tuple #[.bool false],h)] else [])++
   (l.filter λs=> !seen.contains s).map λs=>(.tuple #[.bool true,.int k (s:Int),B true],h.set it (.iter im c (seen++[s]) c))):=by
 have e1:(fC k l).filter (λe=> !seen.contains e.1)=fC k (l.filter λs=> !seen.contains s):=by
  unfold fC
  rw [List.filter_map]
  rfl
 have nU:∀s∈l.filter (λs=> !seen.contains s),s<c:=λs hs=>hl s (mem_filter.1 hs).1
 have e2:∀l':List Nat,(∀s∈l',s<c)->(fC k l').filter (λe=>decide (e.1<c))=fC k l'/\(fC k l').filter (λe=>decide (c<=e.1))=[]:=by
  intro l' nT
  refine ⟨List.filter_eq_self.2 ?_,List.filter_eq_nil_iff.2 ?_⟩
  ·intro x hx
   obtain ⟨s,hs,rfl⟩:=List.mem_map.1 hx
   exact bj (nT s hs)
  ·intro x hx
   obtain ⟨s,hs,rfl⟩:=List.mem_map.1 hx
   have:=nT s hs
   simp only [decide_eq_true_eq]
   omega
 have e3:(!seen.isEmpty&& !(fC k l).isEmpty&&(fC k l).all λe=>decide (c<=e.1))=false:=by
  cases l with
  | nil=>simp [fC]
  | cons a l=>
   have:=hl a (by simp)
   have:decide (c<=a)=false:=aY (by omega)
   simp [fC,this]
 simp only [Bc,pt,hi,hm,e3,Bool.false_eq_true,if_false,e1,(e2 _ nU).1,(e2 _ nU).2,List.append_nil]
 congr 2
 ·cases h1:l.filter (λs=> !seen.contains s) <;> rfl
 ·unfold fC
  rw [List.map_map]
  rfl
end
end Go.Sim
namespace Go.Proofs.YtelmdbpaoifmoaaGreat
open Go.Sim
section
theorem rA.pos {js:List (Int×Int)} {n:Nat} (h:rA js) (hn:js.length=n):vJ js n:=
 ⟨λi=>(h.all i).1.1,λi hi=>by unfold wQ;exact (h.getD (by omega)).1.1,λi=>(h.all i).2.1⟩
theorem UM (s:Nat):∀n,dd s n=CP s n
 | 0=>rfl
 | n+1=>by simp only [dd,CP,UM s n]
theorem aqy (js:List (Int×Int)) (s:Nat):xf js (dd s 10)=lS js s:=by
 rw [UM];exact MW (wQ js) s 10
theorem aqD (js:List (Int×Int)) (s:Nat):xj js (dd s 10)=wS js s:=by
 rw [UM];exact MW (Bv js) s 10
theorem ai6 {js:List (Int×Int)} (h:rA js) (s:Nat):0<=lS js s/\lS js s<=500:=
 ⟨MX (λi=>(h.all i).1.1) s 10,X2 (c:=50) (λi=>(h.all i).1) s 10⟩
theorem aqQ {js:List (Int×Int)} (h:rA js) (s:Nat):0<=wS js s/\wS js s<=500:=
 ⟨MX (λi=>(h.all i).2.1) s 10,X2 (c:=50) (λi=>(h.all i).2) s 10⟩
theorem ajM {a b:Int} (ha:0<=a/\a<=500) (hb:0<=b/\b<=500):0<=a*b/\a*b<=250000:=by
 have h1:0<=a*b:=Int.mul_nonneg ha.1 hb.1
 have h2:a*b<=500*500:=Int.mul_le_mul ha.2 hb.2 hb.1 (by omega)
 omega
theorem afR {s:Nat} (hs:s<32768):dG .u16 (I s)=some (U s):=by
 rw [kZ,vp.wrap (by omega) (by omega)]
theorem ayZ {bs:List Nat} {n s:Nat} (hn:n<=10) (hs:s<2^n):rK bs n s=(dd s 10).all λi=>kU (bs.getD i 0) s:=by
 rw [Bool.eq_iff_iff,xR,List.all_eq_true]
 constructor
 ·intro h i hi
  have h2:=(CQ s 10 i hi).2
  rw [vA]
  exact h i (BV hs h2) h2
 ·intro h i hi hb
  have hm:i∈dd s 10:=by
   have key:∀m,i<m->i∈dd s m:=by
    intro m
    induction m with
    | zero=>intro h;omega
    | succ m ih=>
     intro eZ
     simp only [dd]
     by_cases e:i=m
     ·subst e;rw [hb];simp
     ·have:=ih (by omega)
      split
      ·exact List.mem_append_left _ this
      ·exact this
   exact key 10 (by omega)
  exact vA.1 (h i hm)
theorem Ql (a b:Nat):decide ((a:Int)=(b:Int))=decide (a=b):=by
 rw [decide_eq_decide];omega
theorem aKq {g:ae} {im:Nat} {s:Nat} {l:List Nat} (hg:g[im]?=some (.cw (.int .u16) s (fC .u16 l))) (hs:s∉l):wV (.int .u16) g (.map (some im)) (U s) (.bool true)=some (undef,g.set im (.cw (.int .u16) (s+1) (fC .u16 (l++[s])))):=by
 have h1:fy (.int .u16) (U s)=true:=rfl
 simp only [wV,AQ,hg]
 rw [if_pos (by simp [h1,jq]),(aqq .u16 hs).1,(aqq .u16 hs).2]
 rfl
theorem Eo {g:ae} {im c:Nat} {s:Nat} {es:List (Nat×Value×Value)} (hg:g[im]?=some (.cw (.int .u16) c es)):Ve (.int .u16) g (.map (some im)) (U s)=some (.tuple #[],g.set im (.cw (.int .u16) c (rN (U s) es))):=by
 have h1:fy (.int .u16) (U s)=true:=rfl
 simp only [Ve,Ft,hg]
 rw [if_pos (by simp [h1])]
 rfl
def DU (d:Nat) (seen:List Nat) (m:Nat):Prop:=∃s∈seen,(s &&& d=d/\s≠d)/\m=oC s d
theorem C73 {p:Value} {js:List (Int×Int)} {bs os:List Nat} {n:Nat} {h:ae} {K:Value->ae->Prop} (hp:PL h p js bs) (hn:js.length=n) (h1:1<=n) (pV:n<=10) (wB:rA js) (Kc:bs.length=n) (hb:∀b∈bs,b<2^n)
  (jj:ui bs js n 0 os) (hk:K (sl 131 h.length 0 os.length) (h++[.arr 131 (os.map λb:Nat=>U b)])):ak prog 73 [p] h K:=by
 have plain:wZ (.arr 131 (os.map λb:Nat=>U b))=true:=by
  simp only [wZ,List.all_map,List.all_eq_true]
  intro x _;rfl
 refine ayR (V:=λi=>sl 131 i 0 os.length) (o:=.arr 131 (os.map λb:Nat=>U b)) (xG.sl 131 0 os.length) plain (f73 ?_) hk
 have h2n:(2:Nat)^n<=2^10:=pow_le_pow_right (by decide) pV
 have two:2<=2^n:=by have:=pow_le_pow_right (show 0<2 by decide) h1;simpa using this
 have aA5:∀b∈bs,b<1024:=λb h=>Nat.lt_of_lt_of_le (hb b h) h2n
 have hfs:lC n+1=2^n:=by unfold lC;omega
 have P:=wB.pos hn
 unfold P0
 simp only [tF,aE]
 have hp1:PL (h++[.cw (.int .u16) 0 []]) p js bs:=hp.mono (EX.append _ _)
 refine Zr hp1 (by omega) ?_
 rw [hn,agE]
 have wf:IntKind.wrap .i64 ((lC n:Nat):Int)=((lC n:Nat):Int):=wrap64 (by omega) (by omega)
 simp only [kZ,wf,ah,cL,ft (lC n) (by omega),hfs]
 -- gB aLM aLP can ay2 first
 refine dF (σ:=Nat×ae) (λq=>[I q.1]) (λq=>q.2) (λq=>q.1<=2^n/\EX h q.2/\q.2[h.length]?=some (.cw (.int .u16) q.1 (fC .u16 (kA bs n q.1)))) (λq=>2^n-q.1) (0,_) rfl rfl
  ⟨zero_le _,EX.append _ _,by simp [kA,fC]⟩ ?_
 rintro ⟨s,g⟩ ⟨hs,xg,hm⟩ L hL
 simp only at hs xg hm hL⊢
 rw [aH9]
 simp only [cW,ah,bQ]
 refine ⟨λaF=>?_,λcU=>?_⟩
 ·have nE:s<2^n:=by omega
  have AA:s∉kA bs n s:=λhx=>by have:=(NI hx).1;omega
  simp only [afR (show s<32768 by omega),ah,aKq hm AA,aE]
  have xg1:EX h (g.set h.length (.cw (.int .u16) (s+1) (fC .u16 (kA bs n s++[s])))):=xg.set (le_refl _) _
  have hm1:(g.set h.length (.cw (.int .u16) (s+1) (fC .u16 (kA bs n s++[s]))))[h.length]?=some (.cw (.int .u16) (s+1) (fC .u16 (kA bs n s++[s]))):=cJ hm
  generalize g.set h.length (.cw (.int .u16) (s+1) (fC .u16 (kA bs n s++[s])))=g1 at xg1 hm1⊢
  refine ND (show s<1024 by omega) ?_
  intro v g2 mP wo
  have FE:bk v=some (I (dd s 10).length):=by have:=wo.len;rwa [length_map] at this
  have Tn:=FF s 10
  simp only [FE,ah]
  refine dF (σ:=Nat×ae) (λq=>[I q.1]) (λq=>q.2) (λq=>q.1<=(dd s 10).length/\(CX g2 q.2/\EX h q.2)/\q.2[h.length]?=some (.cw (.int .u16) (s+1) (fC .u16 (if ((dd s 10).take q.1).all (λi=>kU (bs.getD i 0) s)=true then kA bs n s++[s] else kA bs n s))))
   (λq=>(dd s 10).length-q.1) (0,g2) rfl rfl ⟨zero_le _,⟨CX.refl _,xg1.trans mP⟩,by simpa using mP.get hm1⟩ ?_
  rintro ⟨k,g3⟩ ⟨EZ,⟨ko,GY⟩,tq⟩ L2 iV
  simp only at EZ ko GY tq iV⊢
  rw [aH0]
  simp only [cW,ah,bQ]
  refine ⟨λahF=>?_,λaLf=>?_⟩
  ·have gp:k<(dd s 10).length:=by omega
   obtain ⟨b,o,r1,r2⟩:=(NS.aEc ko wo).get k (by simpa using gp)
   have e:((dd s 10).map λi:Nat=>(i:Int))[k]'(by simpa using gp)=((dd s 10)[k]:Int):=by simp
   rw [e] at r2
   have hi:=CQ s 10 _ (getElem_mem gp)
   have fK:=BV nE hi.2
   obtain ⟨a,vj,vb,rfl,hc,hj,EN⟩:=hp.mono GY
   have ld:af false 1 g3 (pt a 1)=some vb:=by simp [af,hc,cP]
   obtain ⟨b2,o2,t1,t2⟩:=NS.aAQ EN (i:=(dd s 10)[k]) (by omega)
   have hbi:bs.getD (dd s 10)[k] 0<1024:=by
    have e3:bs.getD (dd s 10)[k] 0=bs[(dd s 10)[k]]'(by omega):=by simp [getD_eq_getElem?_getD,show (dd s 10)[k]<bs.length by omega]
    rw [e3];exact aA5 _ (getElem_mem _)
   have auY:=abw vp hbi (show s<1024 by omega)
   simp only [r1,r2,ah,Ln,bZ,Nat.zero_add,ld,t1,t2,afR (show s<32768 by omega),auY,oA]
   have ez:decide (((oC (bs.getD (dd s 10)[k] 0) s:Nat):Int)=0)=kU (bs.getD (dd s 10)[k] 0) s:=by
    cases hq:kU (bs.getD (dd s 10)[k] 0) s with
    | true=>exact bj (by have:=af1.2 hq;omega)
    | false=>exact aY (by intro h0;have:=af1.1 (show oC (bs.getD (dd s 10)[k] 0) s=0 by omega);rw [hq] at this;cases this)
   rw [ez]
   have AI:((dd s 10).take (k+1)).all (λi=>kU (bs.getD i 0) s)=(((dd s 10).take k).all (λi=>kU (bs.getD i 0) s)&&kU (bs.getD (dd s 10)[k] 0) s):=by
    rw [List.take_succ_eq_append_getElem gp,List.all_append];simp
   refine BC (λhq=>?_) λhq=>?_
   ·have ie:kU (bs.getD (dd s 10)[k] 0) s=false:=by simpa using hq
    simp only [Eo tq,aE]
    rw [apT]
    simp only [cL,ah,ft k (by omega),true_and]
    refine iV (k+1,_) ⟨by show k+1<=_;omega,⟨ko.trans (CX.ju tq),GY.set (le_refl _) _⟩,?_⟩ (by show _-(k+1)<_-k;omega)
    rw [AI,ie,Bool.and_false]
    simp only [Bool.false_eq_true,if_false]
    rw [cJ tq]
    split
    ·rw [aAk .u16 AA]
    ·rw [aAl .u16 AA]
   ·have ie:kU (bs.getD (dd s 10)[k] 0) s=true:=by simpa using hq
    rw [apT]
    simp only [cL,ah,ft k (by omega),true_and]
    refine iV (k+1,g3) ⟨by show k+1<=_;omega,⟨ko,GY⟩,?_⟩ (by show _-(k+1)<_-k;omega)
    rw [AI,ie,Bool.and_true]
    exact tq
  ·have wg:k=(dd s 10).length:=by omega
   subst wg
   rw [List.take_length,<-ayZ pV nE,<-arH] at tq
   rw [aH1]
   simp only [cL,ah,ft s (by omega),true_and]
   exact hL (s+1,g3) ⟨by show s+1<=_;omega,GY,tq⟩ (by show _-(s+1)<_-s;omega)
 ·have hse:s=2^n:=by omega
  subst hse
  rw [aH2]
  -- one set after gB other
  refine dF (σ:=Nat×List Nat×Value×ae) (λq=>[q.2.2.1,U q.1]) (λq=>q.2.2.2) (λq=>q.1<2^n/\(∀r,ui bs js n q.1 r->ui bs js n 0 (q.2.1++r))/\q.2.1.length<=q.1/\
    (EX h q.2.2.2/\q.2.2.2[h.length]?=some (.cw (.int .u16) (2^n) (fC .u16 (kA bs n (2^n)))))/\kK (h.length+1) q.2.2.2 131 q.2.2.1 (q.2.1.map λb:Nat=>U b)) (λq=>2^n-q.1)
   (0,[],.slice none 0 0,g) rfl rfl ⟨by show 0<2^n;omega,λr hr=>hr,le_refl _,⟨xg,hm⟩,.inl ⟨rfl,rfl⟩⟩ ?_
  rintro ⟨d,out,vo,g2⟩ ⟨hd,TN,iB,⟨mP,uM⟩,own⟩ L1 hL1
  simp only at hd TN iB mP uM own hL1⊢
  rw [aH3]
  refine Zr (hp.mono mP) (by omega) ?_
  rw [hn,agE]
  simp only [oA,ah,Ql]
  refine BC (λbt=>?_) λheq=>?_
  ·have hdf:d<lC n:=by simp at bt;omega
   have g2l:h.length<g2.length:=(bz uM).1
   have rg:CH g2 (.map (some h.length))=some (pt g2.length 0,g2++[.iter h.length (2^n) [] (2^n)]):=by
    simp only [CH,uM]
   simp only [rg,aE]
   have xi:EX g2 (g2++[.iter h.length (2^n) [] (2^n)]):=EX.append _ _
   have gi:(g2++[aq.iter h.length (2^n) [] (2^n)])[g2.length]?=some (.iter h.length (2^n) [] (2^n)):=by simp
   generalize g2++[aq.iter h.length (2^n) [] (2^n)]=g3 at xi gi⊢
   refine dF (σ:=Nat×List Nat×ae) (λq=>[U q.1]) (λq=>q.2.2) (λq=>q.1<2^n/\(∀s∈q.2.1,s∈kA bs n (2^n))/\nt bs js n d (DU d q.2.1) q.1/\EX g2 q.2.2/\q.2.2[g2.length]?=some (.iter h.length (2^n) q.2.1 (2^n)))
    (λq=>((kA bs n (2^n)).filter λs=> !q.2.1.contains s).length) (0,[],g3) rfl rfl ⟨by show 0<2^n;omega,λs hs=>by simp at hs,.start _ _ _ _ (λx ⟨s,hs,_⟩=>by simp at hs),xi,gi⟩ ?_
   rintro ⟨bU,seen,g4⟩ ⟨Aj,ah6,yx,Dt,EV⟩ L2 iV
   simp only at Aj ah6 yx Dt EV iV⊢
   rw [aH4]
   have hm4:=Dt.get uM
   rw [aEi hm4 EV (λs hs=>(NI hs).1),auU]
   intro pr AF
   rcases mem_append.1 AF with AF | AF
   ·-- all aKv seen
    split at AF
    ·rename_i aBc
     have:pr=(.tuple #[.bool false],g4):=by simpa using AF
     subst this
     have x0:cD 0 (.tuple #[Value.bool false])=some (.bool false):=rfl
     simp only [x0,ah,dD]
     have gy:∀x,iu bs n d x->DU d seen x:=by
      intro x hx
      obtain ⟨⟨c1,c2⟩,c3,c4⟩:=alQ hd hx
      refine ⟨d ||| x,?_,c3,c4⟩
      have hme:=arG c1 c2
      apply byContradiction
      intro wo
      have:(d ||| x)∈(kA bs n (2^n)).filter λs=> !seen.contains s:=mem_filter.2 ⟨hme,by simpa using wo⟩
      rw [List.isEmpty_iff.1 aBc] at this
      simp at this
     have hS:=yx.all P pV gy (aIJ hb hdf)
     obtain ⟨s1,s2,s3⟩:=hS.step hd
     rw [aH7]
     have alY:kK (h.length+1) g4 131 vo (out.map λb:Nat=>U b):=own.eX λd' n' hv rR=>by
      have:=(own.lt hv).2.1
      exact Dt.2 d' this
     have xh4:=mP.trans Dt
     refine Qt alY (by simp;omega) (by simp [maxLen];omega) rfl rfl ?_
     intro w1 cE _ hlen oM lH
     simp only [aE,orK vp (show d<1024 by omega) (show bU<1024 by omega),ah,true_and]
     have g4l:g2.length<=g4.length:=Dt.1
     have eX:∀d',d'<g4.length->d'<h.length+1->cE[d']?=g4[d']?:=λd' rR fa=>oM d' rR λn' hv=>by
      have:=(alY.lt hv).1
      omega
     refine hL1 (d ||| bU,out++[bU],sl 131 (g4.length+1) 0 ((out.map λb:Nat=>U b).length+1),cE) ⟨s2,?_,?_,⟨?_,?_⟩,?_⟩ (by show _-(d ||| bU)<_-d;omega)
     ·intro r hr
      have:=TN (bU::r) ⟨hS,hr⟩
      simpa using this
     ·show (out++[bU]).length<=d ||| bU
      simp;omega
     ·refine ⟨by have:=xh4.1;show h.length<=cE.length;omega,λi hi=>?_⟩
      rw [eX i (by omega) (by omega)]
      exact xh4.2 i hi
     ·show cE[h.length]?=_
      rw [eX h.length (by omega) (by omega)]
      exact hm4
     ·refine .inr ⟨g4.length+1,by show h.length+1<=_;omega,?_,?_⟩
      ·show sl 131 (g4.length+1) 0 _=sl 131 (g4.length+1) 0 _
       simp
      ·show cE[g4.length+1]?=_
       rw [lH];simp
    ·simp at AF
   ·obtain ⟨s,hsf,rfl⟩:=List.mem_map.1 AF
    obtain ⟨TK,hsn⟩:=mem_filter.1 hsf
    obtain ⟨aCe,aCc⟩:=NI TK
    have x0:cD 0 (.tuple #[Value.bool true,.int .u16 (s:Int),B true])=some (.bool true):=rfl
    simp only [x0,ah,dA]
    have nL:EX g2 (g4.set g2.length (.iter h.length (2^n) (seen++[s]) (2^n))):=Dt.set (le_refl _) _
    have SC:(g4.set g2.length (.iter h.length (2^n) (seen++[s]) (2^n)))[g2.length]?=some (.iter h.length (2^n) (seen++[s]) (2^n)):=cJ EV
    generalize g4.set g2.length (.iter h.length (2^n) (seen++[s]) (2^n))=g5 at nL SC⊢
    have Kv:=nL.get uM
    have en:AO g5 (pt g2.length 0)=some (.tuple #[U s,B true]):=by
     simp only [AO,pt,SC,Kv,List.getLast?_append,List.getLast?_singleton,Option.some_or,if_true]
     rw [agx .u16 s TK]
     rfl
    have aCd:∀x∈seen++[s],x∈kA bs n (2^n):=by
     intro x hx
     rcases mem_append.1 hx with hx | hx
     ·exact ah6 x hx
     ·have:x=s:=by simpa using hx
      subst this;exact TK
    have aBF:((kA bs n (2^n)).filter λx=> !(seen++[s]).contains x).length<((kA bs n (2^n)).filter λx=> !seen.contains x).length:=by
     have e1:(kA bs n (2^n)).filter (λx=> !(seen++[s]).contains x)=((kA bs n (2^n)).filter λx=> !seen.contains x).filter λx=> !decide (x=s):=by
      rw [List.filter_filter]
      congr 1
      funext x
      rw [List.contains_eq_any_beq,List.contains_eq_any_beq,List.any_append]
      by_cases qh:x=s
      ·subst qh;simp
      ·have:(s==x)=false:=by simpa using λh=>qh h.symm
       simp [qh]
     rw [e1]
     exact List.length_filter_lt_length_iff_exists.2 ⟨s,hsf,by simp⟩
    simp only [en,ah,eR,fv,abv vp (show s<1024 by omega) (show d<1024 by omega),oA,Ql]
    rw [aH5]
    have finish:∀(b':Nat) (g6:ae),b'<2^n->nt bs js n d (DU d (seen++[s])) b'->EX g5 g6->L2 [U b'] g6:=λb' g6 jZ aCf x6=>
     iV (b',seen++[s],g6) ⟨jZ,aCd,aCf,nL.trans x6,x6.get SC⟩ aBF
    by_cases c1:s &&& d=d
    rotate_left
    ·rw [aY c1]
     simp only [Bool.not_false,fW]
     rw [apU]
     simp only [dY,ah,dA,true_and]
     refine finish bU g5 Aj (yx.congr ?_) (EX.refl _)
     rintro x ⟨s',eD,c3,c4⟩
     rcases mem_append.1 eD with eD | eD
     ·exact ⟨s',eD,c3,c4⟩
     ·have:s'=s:=by simpa using eD
      subst this;exact absurd c3.1 c1
    rw [bj c1]
    simp only [Bool.not_true,eL,hY,ah,Ql]
    rw [apU]
    by_cases c2:s=d
    ·rw [bj c2]
     simp only [dQ,ah,dA,true_and]
     refine finish bU g5 Aj (yx.congr ?_) (EX.refl _)
     rintro x ⟨s',eD,c3,c4⟩
     rcases mem_append.1 eD with eD | eD
     ·exact ⟨s',eD,c3,c4⟩
     ·have:s'=s:=by simpa using eD
      subst this;exact absurd c2 c3.2
    rw [aY c2]
    have hR:=ap6 aCe aCc c1 c2
    simp only [dQ,ah,dD,abw vp (show s<1024 by omega) (show d<1024 by omega)]
    generalize Kw:oC s d=m at hR⊢
    have E4:=hR.lt
    have Kf:∀x,DU d (seen++[s]) x->DU d seen x∨x=m:=by
     rintro x ⟨s',eD,c3,c4⟩
     rcases mem_append.1 eD with eD | eD
     ·exact .inl ⟨s',eD,c3,c4⟩
     ·have:s'=s:=by simpa using eD
      subst this;exact .inr (by rw [c4,Kw])
    have KC:PL g5 p js bs:=hp.mono (mP.trans nL)
    refine Zy KC wB (by omega) (by rw [hn];exact E4) λg6 x6=>?_
    refine Zs (KC.mono x6) wB (by omega) (by rw [hn];exact Aj) λg7 x7=>?_
    rw [aqD,aqy]
    have bA:=ajM (aqQ wB m) (ai6 wB bU)
    have bB:=ajM (aqQ wB bU) (ai6 wB m)
    have ee:=x6.trans x7
    simp only [xN,ah,wrap64 (show -9223372036854775808<=wS js m*lS js bU by omega) (show wS js m*lS js bU<9223372036854775808 by omega)]
    refine Zy (KC.mono ee) wB (by omega) (by rw [hn];exact Aj) λg8 x8=>?_
    refine Zs (KC.mono (ee.trans x8)) wB (by omega) (by rw [hn];exact E4) λg9 x9=>?_
    rw [aqD,aqy]
    have eP:=(ee.trans x8).trans x9
    have ez:decide (((bU:Nat):Int)=0)=decide (bU=0):=by rw [decide_eq_decide];omega
    simp only [xN,ah,wrap64 (show -9223372036854775808<=wS js bU*lS js m by omega) (show wS js bU*lS js m<9223372036854775808 by omega),hY,ez]
    rw [aH6]
    by_cases b0:bU=0
    ·rw [bj b0]
     simp only [fW]
     rw [apV]
     simp only [dY,ah,dA,true_and]
     exact finish m g9 E4 ((yx.take P pV hR (.inl b0)).congr Kf) eP
    rw [aY b0]
    simp only [eL,fQ,ah]
    rw [apV]
    by_cases c3:wS js bU*lS js m<wS js m*lS js bU
    ·rw [bj c3]
     simp only [dQ,ah,dA,true_and]
     exact finish m g9 E4 ((yx.take P pV hR (.inr c3)).congr Kf) eP
    rw [aY c3]
    simp only [dQ,ah,dD,hY]
    by_cases c4:wS js bU*lS js m=wS js m*lS js bU
    ·rw [bj c4.symm]
     simp only [dA,orK vp (show bU<1024 by omega) (show m<1024 by omega),ah,true_and]
     exact finish _ g9 (Nat.or_lt_two_pow Aj E4) ((yx.join P pV hR b0 c4).congr Kf) eP
    ·rw [aY (λh=>c4 h.symm)]
     simp only [dD,true_and]
     exact finish bU g9 Aj ((yx.pass P pV hR b0 (by omega)).congr Kf) eP
  ·have EP:d=lC n:=by simpa using heq
   rw [aH8]
   have e:=ui.uniq (TN [] EP) jj
   rw [List.append_nil] at e
   subst e
   have bt:out≠[]:=by
    rintro rfl
    have h0:(0:Nat)=lC n:=jj
    omega
   refine ⟨mP,?_⟩
   rcases own with ⟨_,h2⟩ | ⟨i,i1,i2,i3⟩
   ·exact absurd (by simpa using h2) bt
   ·exact ⟨i,by omega,i3,by rw [i2,length_map]⟩
end
section
def alR (h:ae) (i:Nat):Bool:=
 match aW h i with
 | some [.slice (some ⟨a,0,some _⟩) 2 2,.slice (some ⟨b,0,some _⟩) 2 2]=>
  (match aW h a with | some xs=>yO xs [I 3,I 1,I 1,I 1] | none=>false)&&(match aW h b with | some ys=>yO ys [U 0,U 1] | none=>false)
 | _=>false
noncomputable def rr:lT:=λt args h=>
 match t with
 | .func 73=>
  match args with
  | [.pointer (some ⟨i,0,none⟩)]=>if alR h i=true then some (sl 131 h.length 0 1,h++[.arr 131 [U 3]]) else none
  | _=>none
 | _=>none
theorem aJL:ui [0,1] [(3,1),(1,1)] 2 0 [3]:=by
 have abt:∀x,x<2^2->x=0∨x=1∨x=2∨x=3:=by intro x hx;omega
 have e1:wS [(3,1),(1,1)] 1=1/\lS [(3,1),(1,1)] 1=3:=by decide
 have e3:wS [(3,1),(1,1)] 3=2/\lS [(3,1),(1,1)] 3=4:=by decide
 refine ⟨⟨⟨⟨by decide,by decide,by decide,by decide⟩,λx hx=>?_⟩,λm hm=>?_⟩,by show (0 ||| 3)=lC 2;decide⟩
 ·rcases abt x hx.lt with rfl | rfl | rfl | rfl
  ·exact absurd rfl hx.ne
  ·rw [e1.1,e1.2,e3.1,e3.2];decide
  ·have:=hx.cl
   revert this
   decide
  ·exact Int.le_refl _
 ·rcases abt m hm.1.lt with rfl | rfl | rfl | rfl <;> decide
theorem aED:sK prog rr:=by
 constructor
 ·intro F args h v h' he
  simp only [rr] at he
  split at he
  ·rename_i hF
   injection hF with hF
   subst hF
   split at he
   ·rename_i i
    split at he
    ·rename_i aI
     simp only [Option.some.injEq,Prod.mk.injEq] at he
     obtain ⟨rfl,rfl⟩:=he
     unfold alR at aI
     split at aI
     ·rename_i hc
      rename_i a ea b eb
      rw [and_eq_true] at aI
      obtain ⟨ha,hb⟩:=aI
      split at ha
      ·rename_i xs hx
       split at hb
       ·rename_i ys hy
        have cE:=Dp ha
        have qZ:=Dp hb
        subst cE qZ
        have nF:PL h (pt i 0) [(3,1),(1,1)] [0,1]:=by
         refine ⟨i,_,_,rfl,hc,?_,?_⟩
         ·exact PS.sl (e:=ea) (i:=a) (ps:=[(3,1),(1,1)]) hx
         ·exact NS.sl (e:=eb) (i:=b) (k:=.u16) (ns:=[0,1]) (.inr hy) (by decide)
        have jB:=C73 (os:=[3]) (n:=2) (K:=λv aX=>v=sl 131 h.length 0 1/\aX=h++[.arr 131 [U 3]]) nF rfl (by decide) (by decide)
         (by intro j hj;rcases mem_cons.1 hj with rfl | hj;decide;rcases mem_cons.1 hj with rfl | hj;decide;simp at hj) rfl (by intro b hb;rcases mem_cons.1 hb with rfl | hb;decide;rcases mem_cons.1 hb with rfl | hb;decide;simp at hb) aJL ⟨rfl,rfl⟩
        rw [uc] at jB
        obtain ⟨v,h',SV,rfl,rfl⟩:=jB
        exact SV
       ·cases hb
      ·cases ha
     ·cases aI
    ·cases he
   ·cases he
  ·cases he
 ·intro i args h v h' he
  simp only [rr] at he
  cases he
end
end Go.Proofs.YtelmdbpaoifmoaaGreat
namespace Go.Sim
section
def Bn (f:Nat->Option Nat) (v:Value):Option Value:=
 match v with
 | .pointer (some ⟨i,o,none⟩)=>match f i with | some j=>some (.pointer (some ⟨j,o,none⟩)) | none=>none
 | .slice (some ⟨i,o,some e⟩) n c=>match f i with | some j=>some (.slice (some ⟨j,o,some e⟩) n c) | none=>none
 | v=>match gA v with | true=>some v | false=>none
def w9 (f:Nat->Option Nat):List Value->Option (List Value)
 | []=>some []
 | v::vs=>match Bn f v with
  | some u=>match w9 f vs with | some us=>some (u::us) | none=>none
  | none=>none
def Ms (f:Nat->Option Nat) (v:Value):Option Value:=
 match v with
 | .agg xs=>match w9 f xs.toList with | some ys=>some (.agg ys.toArray) | none=>none
 | v=>Bn f v
def Bm (f:Nat->Option Nat):List Value->Option (List Value)
 | []=>some []
 | v::vs=>match Ms f v with
  | some u=>match Bm f vs with | some us=>some (u::us) | none=>none
  | none=>none
def Mw (f:Nat->Option Nat) (v:Value):Option Value:=
 match v with
 | .tuple xs=>match Bm f xs.toList with | some ys=>some (.tuple ys.toArray) | none=>none
 | v=>Ms f v
def xa (f:Nat->Option Nat) (o:aq):Option aq:=
 match o with
 | .arr e xs=>match w9 f xs with | some ys=>some (.arr e ys) | none=>none
 | .ro e xs=>match w9 f xs with | some ys=>some (.ro e ys) | none=>none
 | _=>none
section
variable {f : Nat -> Option Nat} {pc nm : aO} (hf : ∀ i k, f i = some k -> pc i = nm k)
include hf
theorem Mt {v u v':Value} (h:Bn f v=some u):aC pc v v'↔aC nm u v':=by
 unfold Bn at h
 split at h
 ·split at h
  ·rename_i i o j hj
   injection h with h;subst h
   have e:=hf _ _ hj
   constructor
   ·intro q;cases q with | ptr hr=>exact .ptr (by rw [<-e];exact hr)
   ·intro q;cases q with | ptr hr=>exact .ptr (by rw [e];exact hr)
  ·cases h
 ·split at h
  ·rename_i i o el n c j hj
   injection h with h;subst h
   have e:=hf _ _ hj
   constructor
   ·intro q;cases q with | slice hr a b c d=>exact .slice (by rw [<-e];exact hr) a b c d
   ·intro q;cases q with | slice hr a b c d=>exact .slice (by rw [e];exact hr) a b c d
  ·cases h
 ·split at h
  ·rename_i hs
   injection h with h;subst h
   exact ⟨λq=>gA.rel hs q,λq=>gA.rel hs q⟩
  ·cases h
omit hf in
theorem Xv {v u:Value} (h:Bn f v=some u):gF v=gF u:=by
 unfold Bn at h
 split at h
 ·split at h
  ·injection h with h;subst h;rfl
  ·cases h
 ·split at h
  ·injection h with h;subst h;rfl
  ·cases h
 ·split at h
  ·injection h with h;subst h;rfl
  ·cases h
omit hf in
theorem Mv:∀{xs ys:List Value},w9 f xs=some ys->xs.length=ys.length/\∀(k:Nat) (x y:Value),xs[k]?=some x->ys[k]?=some y->Bn f x=some y
 | [],ys,h=>by
  simp only [w9,Option.some.injEq] at h
  subst h
  exact ⟨rfl,λk x y h _=>by simp at h⟩
 | x::xs,ys,h=>by
  simp only [w9] at h
  split at h
  ·rename_i u hu
   split at h
   ·rename_i us CF
    injection h with h;subst h
    obtain ⟨h1,h2⟩:=Mv CF
    refine ⟨by simp [h1],λk a b ha hb=>?_⟩
    cases k with
    | zero=>simp at ha hb;rw [<-ha,<-hb];exact hu
    | succ k=>exact h2 k a b (by simpa using ha) (by simpa using hb)
   ·cases h
  ·cases h
theorem Mu {xs ys:List Value} (h:w9 f xs=some ys) {c:Array Value} {sh:Nat}:gR pc c sh xs↔gR nm c sh ys:=by
 obtain ⟨hl,hg⟩:=Mv h
 constructor
 ·intro q j y hy
  have hj:j<xs.length:=by rw [hl];exact (bz hy).1
  have hx:xs[j]?=some xs[j]:=getElem?_eq_getElem hj
  obtain ⟨q1,z,q2,q3⟩:=q j _ hx
  have r:=hg j _ _ hx hy
  exact ⟨by rw [<-Xv r];exact q1,z,q2,(Mt hf r).1 q3⟩
 ·intro q j x hx
  have hj:j<ys.length:=by rw [<-hl];exact (bz hx).1
  have hy:ys[j]?=some ys[j]:=getElem?_eq_getElem hj
  obtain ⟨q1,z,q2,q3⟩:=q j _ hy
  have r:=hg j _ _ hx hy
  exact ⟨by rw [Xv r];exact q1,z,q2,(Mt hf r).2 q3⟩
theorem Xw {o u:aq} {w:World} {r:RI} (h:xa f o=some u):mf pc w r o↔mf nm w r u:=by
 unfold xa at h
 split at h
 ·split at h
  ·rename_i qh
   injection h with h;subst h
   constructor
   ·rintro ⟨a,b,c,d,e,g⟩;exact ⟨a,b,c,d,e,(Mu hf qh).1 g⟩
   ·rintro ⟨a,b,c,d,e,g⟩;exact ⟨a,b,c,d,e,(Mu hf qh).2 g⟩
  ·cases h
 ·split at h
  ·rename_i qh
   injection h with h;subst h
   constructor
   ·rintro ⟨a,c,t,fr,d,e,g⟩;exact ⟨a,c,t,fr,d,e,(Mu hf qh).1 g⟩
   ·rintro ⟨a,c,t,fr,d,e,g⟩;exact ⟨a,c,t,fr,d,e,(Mu hf qh).2 g⟩
  ·cases h
 ·cases h
theorem aIN {xs ys zs:List Value} (h:w9 f xs=some ys) (q:bR pc xs zs):bR nm ys zs:=by
 obtain ⟨hl,hg⟩:=Mv h
 refine bR.Lp (by rw [<-hl];exact q.length) λk y z hy hz=>?_
 have hk:k<xs.length:=by rw [hl];exact (bz hy).1
 have hx:xs[k]?=some xs[k]:=getElem?_eq_getElem hk
 obtain ⟨z',h1,h2⟩:=q.get hx
 rw [hz] at h1;cases h1
 exact (Mt hf (hg k _ _ hx hy)).1 h2
theorem ap7 {v u v':Value} (h:Ms f v=some u) (q:aC pc v v'):aC nm u v':=by
 unfold Ms at h
 split at h
 ·rename_i xs
  split at h
  ·rename_i ys AL
   injection h with h;subst h
   cases q with
   | agg hs h1 hr=>
    have vs:=aIN hf AL (bR.xk hs hr)
    obtain ⟨hl,hg⟩:=Mv AL
    refine .agg (by have:=vs.length;simpa using this) (λy hy=>?_) (by have:=vs.ofList;simpa using this)
    have qZ:y∈ys:=by simpa using hy
    obtain ⟨k,hk,e⟩:=List.mem_iff_getElem.1 qZ
    have hx:xs.toList[k]?=some (xs.toList[k]'(by omega)):=getElem?_eq_getElem (by omega)
    have r:=hg k _ y hx (by rw [getElem?_eq_getElem hk,e])
    rw [<-Xv r]
    exact h1 _ (getElem_mem _)
  ·cases h
 ·exact (Mt hf h).1 q
theorem Xu:∀{xs ys zs:List Value},Bm f xs=some ys->bR pc xs zs->bR nm ys zs
 | [],ys,zs,h,q=>by
  simp only [Bm,Option.some.injEq] at h
  subst h
  cases q;exact .nil
 | x::xs,ys,zs,h,q=>by
  simp only [Bm] at h
  split at h
  ·rename_i u hu
   split at h
   ·rename_i us CF
    injection h with h;subst h
    cases q with
    | cons a b=>exact .cons (ap7 hf hu a) (Xu CF b)
   ·cases h
  ·cases h
theorem aIP {v u v':Value} (h:Mw f v=some u) (q:aC pc v v'):aC nm u v':=by
 unfold Mw at h
 split at h
 ·rename_i xs
  split at h
  ·rename_i ys AL
   injection h with h;subst h
   cases q with
   | tuple hs hr=>
    have vs:=Xu hf AL (bR.xk hs hr)
    exact .tuple (by have:=vs.length;simpa using this) (by have:=vs.ofList;simpa using this)
  ·cases h
 ·exact ap7 hf h q
end
def qp (i:Nat):List Nat->Option Nat
 | []=>none
 | a::l=>match Nat.beq a i with | true=>some 0 | false=>match qp i l with | some k=>some (k+1) | none=>none
theorem Mg {i:Nat}:∀{l:List Nat} {k:Nat},qp i l=some k->l[k]?=some i
 | [],k,h=>by cases h
 | a::l,k,h=>by
  simp only [qp] at h
  split at h
  ·rename_i hb
   injection h with h;subst h
   simp [eq_of_beq_eq_true hb]
  ·split at h
   ·rename_i k' bD
    injection h with h;subst h
    simpa using Mg bD
   ·cases h
def BU (ids is:List Nat) (b:Nat) (k:Nat):Option Nat:=
 match Nat.blt k ids.length with
 | true=>ids[k]?
 | false=>match qp k is with | some t=>some (b+t) | none=>none
theorem aIO {f:Nat->Option Nat} {o u:aq} (h:xa f o=some u):(∃e xs ys,o=.arr e xs/\u=.arr e ys)∨∃e xs ys,o=.ro e xs/\u=.ro e ys:=by
 unfold xa at h
 split at h
 ·split at h
  ·injection h with h;subst h;exact .inl ⟨_,_,_,rfl,rfl⟩
  ·cases h
 ·split at h
  ·injection h with h;subst h;exact .inr ⟨_,_,_,rfl,rfl⟩
  ·cases h
 ·cases h
theorem tL {h h2:ae} {i k:Nat} {o u:aq} {f:Nat->Option Nat} (h1:h[i]?=some o) (h3:h2[k]?=some u) (hr:xa f o=some u):(cF h i↔cF h2 k)/\dZ h i/\dZ h2 k:=by
 unfold cF dZ
 rw [h1,h3]
 rcases aIO hr with ⟨e,xs,ys,rfl,rfl⟩ | ⟨e,xs,ys,rfl,rfl⟩ <;> simp
theorem aj0 {l:List Nat} (h:l.Nodup) {a b i:Nat} (ha:l[a]?=some i) (hb:l[b]?=some i):a=b:=by
 obtain ⟨h1,h2⟩:=bz ha
 obtain ⟨h3,h4⟩:=bz hb
 have hp:=List.pairwise_iff_getElem.1 h
 rcases Nat.lt_trichotomy a b with hl | he | hl
 ·exact absurd (h2.trans h4.symm) (hp a b h1 h3 hl)
 ·exact he
 ·exact absurd (h4.trans h2.symm) (hp b a h3 h1 hl)
theorem aCz {P:Program} {F:FuncId} {zC args:List Value} {h0 mD h os:ae} {v0 v:Value} {ids is:List Nat} (hc:ue P F zC h0 v0 mD)
  (mW:ids.Nodup) (hlen:h0.length=ids.length) (ha:Bm (qp · ids) args=some zC)
  (ho:∀(k i:Nat),ids[k]?=some i->∃o o0:aq,h[i]?=some o/\h0[k]?=some o0/\xa (qp · ids) o=some o0)
  (hex:EX h0 mD) (aBr:is.Nodup) (aBq:∀k∈is,h0.length<=k) (hv:Mw (BU ids is h.length) v0=some v) (_:os.length=is.length)
  (jj:∀(t k:Nat),is[t]?=some k->∃o0 o:aq,mD[k]?=some o0/\os[t]?=some o/\xa (BU ids is h.length) o0=some o):ue P F args h v (h++os):=by
 intro ρ args' w hva H
 let sH:aO:=λk=>(ids[k]?).bind ρ
 have f1:∀i k,qp i ids=some k->ρ i=sH k:=λi k hk=>by simp [sH,Mg hk]
 have aiB:∀k i,ids[k]?=some i->i<h.length:=λk i hk=>by
  obtain ⟨o,o0,h1,_⟩:=ho k i hk
  exact (bz h1).1
 have r0:∀k r,sH k=some r->∃i,ids[k]?=some i/\ρ i=some r:=by
  intro k r hr
  cases hi:ids[k]? with
  | none=>simp [sH,hi] at hr
  | some i=>exact ⟨i,rfl,by simpa [sH,hi] using hr⟩
 have H0:a9 P sH h0 w:=by
  refine ⟨?_,?_,?_⟩
  ·intro k r hr
   obtain ⟨i,hi,oN⟩:=r0 k r hr
   obtain ⟨o,o0,h1,h2,h3⟩:=ho k i hi
   obtain ⟨o',dX,nV⟩:=H.obj i r oN
   rw [h1] at dX;cases dX
   exact ⟨o0,h2,(Xw f1 h3).1 nV⟩
  ·intro a b r s rX qX nG hm hl
   obtain ⟨i,hi,oN⟩:=r0 a r rX
   obtain ⟨j,hj,hrj⟩:=r0 b s qX
   obtain ⟨o,o0,h1,h2,h3⟩:=ho a i hi
   obtain ⟨p,p0,q1,q2,q3⟩:=ho b j hj
   have e:=H.inj i j r s oN hrj nG ((tL h1 h2 h3).1.2 hm) (tL q1 q2 q3).2.1
   subst e
   exact aj0 mW hi hj
  ·intro k r hr
   obtain ⟨i,_,oN⟩:=r0 k r hr
   exact H.bm i r oN
 refine (hc sH args' w (Xu f1 ha hva) H0).mono ?_
 rintro e w' ⟨v',vE,rfl,kD,H',T⟩
 let nm:aO:=λj=>if j<h.length then ρ j else (is[j-h.length]?).bind vE
 have vi:∀j,j<h.length->nm j=ρ j:=λj hj=>by simp [nm,hj]
 have r2n:∀t,nm (h.length+t)=(is[t]?).bind vE:=λt=>by
  show (if h.length+t<h.length then ρ (h.length+t) else (is[h.length+t-h.length]?).bind vE)=_
  rw [if_neg (by omega),Nat.add_sub_cancel_left]
 have FV:∀k i,ids[k]?=some i->vE k=ρ i:=by
  intro k i hi
  have e0:sH k=ρ i:=by simp [sH,hi]
  cases hr:ρ i with
  | some r=>exact T.ext k r (by rw [e0];exact hr)
  | none=>
   cases wx:vE k with
   | none=>rfl
   | some r=>
    have:=(T.fresh k r wx (by rw [e0];exact hr)).1
    have:k<ids.length:=(bz hi).1
    omega
 have f2:∀k j,BU ids is h.length k=some j->vE k=nm j:=by
  intro k j hk
  unfold BU at hk
  split at hk
  ·rw [FV k j hk,vi j (aiB k j hk)]
  ·split at hk
   ·rename_i t ht
    injection hk with hk;subst hk
    rw [r2n t,Mg ht];rfl
   ·cases hk
 have f3:∀i k,qp i ids=some k->nm i=vE k:=λi k hk=>by
  have:=Mg hk
  rw [FV k i this,vi i (aiB k i this)]
 have alT:∀j,j<h.length->(h++os)[j]?=h[j]?:=λj hj=>getElem?_append_left hj
 have U8:∀t,(h++os)[h.length+t]?=os[t]?:=λt=>by rw [getElem?_append_right (by omega),Nat.add_sub_cancel_left]
 have hle:ρ.le nm:=λj r hr=>by rw [vi j (H.lt hr)];exact hr
 have FM:∀j,j<h.length->(cF (h++os) j↔cF h j)/\(dZ (h++os) j↔dZ h j):=λj hj=>by unfold cF dZ;rw [alT j hj];exact ⟨Iff.rfl,Iff.rfl⟩
 -- sD is new,sO gB own heap has it
 have Bb:∀j r,nm j=some r->¬j<h.length->∃t k:Nat,j=h.length+t/\is[t]?=some k/\vE k=some r/\h0.length<=k:=by
  intro j r hr hj
  obtain ⟨t,rfl⟩:∃t,j=h.length+t:=⟨j-h.length,by omega⟩
  rw [r2n t] at hr
  cases hk:is[t]? with
  | none=>rw [hk] at hr;cases hr
  | some k=>rw [hk] at hr;exact ⟨t,k,rfl,hk,hr,aBq k (List.mem_of_getElem? hk)⟩
 have aCY:∀k,h0.length<=k->sH k=none:=λk hk=>by
  have:ids[k]?=none:=List.getElem?_eq_none (by omega)
  simp [sH,this]
 have ajY:∀(k:Nat) (r:RI),vE k=some r->h0.length<=k->w.heap.size<=r.bC∨∃(k' i:Nat) (s:RI),ids[k']?=some i/\ρ i=some s/\s.bC=r.bC/\cF h i:=by
  intro k r hr hk
  rcases (T.fresh k r hr (aCY k hk)).2 with h1 | ⟨j,s,h1,h2,h3⟩
  ·exact .inl h1
  ·obtain ⟨i,hi,oN⟩:=r0 j s h1
   obtain ⟨o,o0,q1,q2,q3⟩:=ho j i hi
   exact .inr ⟨j,i,s,hi,oN,h2,(tL q1 q2 q3).1.2 h3⟩
 -- an old aEq and a new one aLN no block,if one of aKg may be written
 have apart:∀(a:Nat) (r:RI) (k:Nat) (s:RI),ρ a=some r->vE k=some s->h0.length<=k->r.bC=s.bC->dZ h a->(∀k':Nat,ids[k']?≠some a)->False:=by
  intro a r k s rX pG hk he E1 hna
  rcases ajY k s pG hk with h1 | ⟨k',i,s',h1,h2,h3,h4⟩
  ·have:=CV H rX E1;omega
  ·have:=H.inj i a s' r h2 rX (by omega) h4 E1
   subst this
   exact hna k' h1
 refine ⟨v',nm,rfl,aIP f2 hv kD,⟨?_,?_,?_⟩,?_⟩
 ·intro j r hr
  by_cases hj:j<h.length
  ·rw [vi j hj] at hr
   obtain ⟨o,Kz,nV⟩:=H.obj j r hr
   refine ⟨o,by rw [alT j hj];exact Kz,?_⟩
   by_cases fK:∃k:Nat,ids[k]?=some j
   ·obtain ⟨k,hk⟩:=fK
    obtain ⟨o1,o0,h1,h2,h3⟩:=ho k j hk
    rw [Kz] at h1;cases h1
    obtain ⟨o',dX,TD⟩:=H'.obj k r (by rw [FV k j hk];exact hr)
    rw [hex.get h2] at dX;cases dX
    exact (Xw f3 h3).2 TD
   ·by_cases hd:o=.dead
    ·subst hd;trivial
    ·refine nV.mono hle (T.gZ _ (CV H hr ⟨o,Kz,hd⟩) ?_)
     intro k s hk hb hm
     obtain ⟨i,hi,oN⟩:=r0 k s hk
     obtain ⟨o1,o0,q1,q2,q3⟩:=ho k i hi
     have:=H.inj i j s r oN hr hb ((tL q1 q2 q3).1.2 hm) ⟨o,Kz,hd⟩
     subst this
     exact fK ⟨k,hi⟩
  ·obtain ⟨t,k,rfl,hk,pG,gp⟩:=Bb j r hr hj
   obtain ⟨o0,o,h1,h2,h3⟩:=jj t k hk
   obtain ⟨o',dX,TD⟩:=H'.obj k r pG
   rw [h1] at dX;cases dX
   exact ⟨o,by rw [U8 t];exact h2,(Xw f2 h3).1 TD⟩
 ·intro a b r s rX qX nG hm hl
  by_cases Cl:a<h.length <;> by_cases Cn:b<h.length
  ·rw [vi a Cl] at rX
   rw [vi b Cn] at qX
   exact H.inj a b r s rX qX nG ((FM a Cl).1.1 hm) ((FM b Cn).2.1 hl)
  ·exfalso
   rw [vi a Cl] at rX
   obtain ⟨t,k,rfl,hk,pG,gp⟩:=Bb b s qX Cn
   have hma:=(FM a Cl).1.1 hm
   by_cases fK:∃k':Nat,ids[k']?=some a
   ·obtain ⟨k',bD⟩:=fK
    obtain ⟨o,o0,q1,q2,q3⟩:=ho k' a bD
    have m1:cF mD k':=by
     have:=(tL q1 (hex.get q2) q3).1.1 hma
     exact this
    obtain ⟨p0,p,u1,u2,u3⟩:=jj t k hk
    have:=H'.inj k' k r s (by rw [FV k' a bD];exact rX) pG nG m1 (tL u1 u2 u3).2.1
    have:k'<ids.length:=(bz bD).1
    omega
   ·exact apart a r k s rX pG gp nG hma.live λk' bD=>fK ⟨k',bD⟩
  ·exfalso
   rw [vi b Cn] at qX
   obtain ⟨t,k,rfl,hk,pG,gp⟩:=Bb a r rX Cl
   have qe:=(FM b Cn).2.1 hl
   obtain ⟨p0,p,u1,u2,u3⟩:=jj t k hk
   have m0:cF mD k:=(tL u1 (show (h++os)[h.length+t]?=some p by rw [U8 t];exact u2) u3).1.2 hm
   by_cases fK:∃k':Nat,ids[k']?=some b
   ·obtain ⟨k',bD⟩:=fK
    obtain ⟨o,o0,q1,q2,q3⟩:=ho k' b bD
    have:=H'.inj k k' r s pG (by rw [FV k' b bD];exact qX) nG m0 (tL q1 (hex.get q2) q3).2.2
    have:k'<ids.length:=(bz bD).1
    omega
   ·exact apart b s k r qX pG gp nG.symm qe λk' bD=>fK ⟨k',bD⟩
  ·obtain ⟨t,k,rfl,hk,pG,gp⟩:=Bb a r rX Cl
   obtain ⟨t',k',rfl,bD,aB5,aLl⟩:=Bb b s qX Cn
   obtain ⟨p0,p,u1,u2,u3⟩:=jj t k hk
   obtain ⟨p0',p',x1,x2,x3⟩:=jj t' k' bD
   have m0:cF mD k:=(tL u1 (show (h++os)[h.length+t]?=some p by rw [U8 t];exact u2) u3).1.2 hm
   have:=H'.inj k k' r s pG aB5 nG m0 (tL x1 x2 x3).2.1
   subst this
   rw [aj0 aBr hk bD]
 ·intro j r hr
  by_cases hj:j<h.length
  ·rw [vi j hj] at hr;exact H.bm j r hr
  ·obtain ⟨t,k,rfl,hk,pG,gp⟩:=Bb j r hr hj
   exact H'.bm k r pG
 ·exact {
   ext:=hle
   len:=by simp
   jY:=λk r hr=>H.lt hr
   kinds:=λk hk hm=>(FM k hk).1.1 hm
   fresh:=by
    intro j r hr hn
    by_cases hj:j<h.length
    ·rw [vi j hj,hn] at hr;cases hr
    ·obtain ⟨t,k,rfl,hk,pG,gp⟩:=Bb j r hr hj
     refine ⟨by omega,?_⟩
     rcases ajY k r pG gp with h1 | ⟨k',i,s,h1,h2,h3,h4⟩
     ·exact .inl h1
     ·exact .inr ⟨i,s,h2,h3,h4⟩
   iR:=T.iR
   gZ:=by
    intro b hb dV
    refine T.gZ b hb ?_
    intro k s hk wA hm
    obtain ⟨i,hi,oN⟩:=r0 k s hk
    obtain ⟨o,o0,q1,q2,q3⟩:=ho k i hi
    exact dV i s oN wA ((tL q1 q2 q3).1.2 hm)
   os:=T.os
   tape:=T.tape
   output:=T.output }
end
section
section
variable {β : Type}
def sS (n:Nat) (k:Nat->β):β:=match n with | 0=>k 0 | m+1=>k (m+1)
theorem Ex (n:Nat) (k:Nat->β):sS n k=k n:=by cases n <;> rfl
def Se (n:Int) (k:Int->β):β:=match n with | .ofNat m=>sS m λm=>k (.ofNat m) | .negSucc m=>sS m λm=>k (.negSucc m)
theorem aAu (n:Int) (k:Int->β):Se n k=k n:=by cases n <;> simp [Se,Ex]
def JR (v:Value) (k:Value->β):β:=
 match v with
 | .int kd n=>Se n λn=>k (.int kd n)
 | .bool b=>match b with | true=>k (.bool true) | false=>k (.bool false)
 | .pointer (some ⟨i,o,none⟩)=>sS i λi=>sS o λo=>k (.pointer (some ⟨i,o,none⟩))
 | .slice (some ⟨i,o,some e⟩) n c=>sS i λi=>sS o λo=>sS n λn=>sS c λc=>k (.slice (some ⟨i,o,some e⟩) n c)
 | v=>k v
theorem agr (v:Value) (k:Value->β):JR v k=k v:=by
 unfold JR
 split
 ·rw [aAu]
 ·rename_i b;cases b <;> rfl
 ·simp only [Ex]
 ·simp only [Ex]
 ·rfl
def Ca (xs:List Value) (k:List Value->β):β:=match xs with | []=>k [] | x::xs=>JR x λx=>Ca xs λxs=>k (x::xs)
theorem Sd:∀(xs:List Value) (k:List Value->β),Ca xs k=k xs
 | [],_=>rfl
 | x::xs,k=>by simp only [Ca,agr];exact Sd xs _
def JQ (v:Value) (k:Value->β):β:=match v with | .agg xs=>Ca xs.toList λys=>k (.agg ys.toArray) | v=>JR v k
theorem agq (v:Value) (k:Value->β):JQ v k=k v:=by
 unfold JQ
 split
 ·rw [Sd]
 ·exact agr _ _
def Ew (xs:List Value) (k:List Value->β):β:=match xs with | []=>k [] | x::xs=>JQ x λx=>Ew xs λxs=>k (x::xs)
theorem Sc:∀(xs:List Value) (k:List Value->β),Ew xs k=k xs
 | [],_=>rfl
 | x::xs,k=>by simp only [Ew,agq];exact Sc xs _
def Sf (v:Value) (k:Value->β):β:=match v with | .tuple xs=>Ew xs.toList λys=>k (.tuple ys.toArray) | v=>JQ v k
theorem aAv (v:Value) (k:Value->β):Sf v k=k v:=by
 unfold Sf
 split
 ·rw [Sc]
 ·exact agq _ _
def zX (h:ae) (k:ae->β):β:=
 match h with
 | []=>k []
 | o::r=>match o with
  | .arr e xs=>Ca xs λxs=>zX r λr=>k (.arr e xs::r)
  | .ro e xs=>Ca xs λxs=>zX r λr=>k (.ro e xs::r)
  | o=>zX r λr=>k (o::r)
theorem ags:∀(h:ae) (k:ae->β),zX h k=k h
 | [],_=>rfl
 | o::r,k=>by
  unfold zX
  cases o <;> simp only [Sd] <;> exact ags r _
def Ey (xs:List Nat) (k:List Nat->β):β:=match xs with | []=>k [] | x::xs=>sS x λx=>Ey xs λxs=>k (x::xs)
theorem agt:∀(xs:List Nat) (k:List Nat->β),Ey xs k=k xs
 | [],_=>rfl
 | x::xs,k=>by simp only [Ey,Ex];exact agt xs _
end
def aCC:Value->List Nat
 | .pointer (some ⟨i,_,none⟩)=>[i]
 | .slice (some ⟨i,_,some _⟩) _ _=>[i]
 | _=>[]
def CI:List Value->List Nat->List Nat
 | [],r=>r
 | x::xs,r=>match aCC x with | i::_=>i::CI xs r | []=>CI xs r
def aiD (v:Value) (r:List Nat):List Nat:=match v with | .agg xs=>CI xs.toList r | v=>CI [v] r
def Ul:List Value->List Nat->List Nat
 | [],r=>r
 | x::xs,r=>aiD x (Ul xs r)
def aCD (v:Value):List Nat:=match v with | .tuple xs=>Ul xs.toList [] | v=>aiD v []
def reach:Nat->ae->List Nat->List Nat->List Nat
 | 0,_,_,acc=>acc
 | _+1,_,[],acc=>acc
 | n+1,h,i::r,acc=>
  match qp i acc with
  | some _=>reach n h r acc
  | none=>match h[i]? with
   | some (.arr _ xs)=>reach n h (CI xs r) (acc++[i])
   | some (.ro _ xs)=>reach n h (CI xs r) (acc++[i])
   | _=>reach n h r (acc++[i])
def FT:List Nat->Bool
 | []=>true
 | a::l=>match qp a l with | some _=>false | none=>FT l
theorem aoX {i:Nat}:∀{l:List Nat},qp i l=none->i∉l
 | [],_=>by simp
 | a::l,h=>by
  simp only [qp] at h
  split at h
  ·cases h
  ·rename_i hb
   split at h
   ·cases h
   ·rename_i hn
    intro hm
    rcases mem_cons.1 hm with rfl | hm
    ·simp at hb
    ·exact aoX hn hm
theorem Vc:∀{l:List Nat},FT l=true->l.Nodup
 | [],_=>.nil
 | a::l,h=>by
  simp only [FT] at h
  split at h
  ·cases h
  ·rename_i hn
   exact List.nodup_cons.2 ⟨aoX hn,Vc h⟩
def CY (f:Nat->Option Nat) (h:ae):List Nat->Option ae
 | []=>some []
 | i::r=>match h[i]? with
  | some o=>match xa f o with
   | some u=>match CY f h r with | some us=>some (u::us) | none=>none
   | none=>none
  | none=>none
theorem Vp {f:Nat->Option Nat} {h:ae}:∀{l:List Nat} {us:ae},CY f h l=some us->us.length=l.length/\∀(k i:Nat),l[k]?=some i->∃o u:aq,h[i]?=some o/\us[k]?=some u/\xa f o=some u
 | [],us,e=>by
  simp only [CY,Option.some.injEq] at e
  subst e
  exact ⟨rfl,λk i hk=>by simp at hk⟩
 | i::r,us,e=>by
  simp only [CY] at e
  split at e
  ·rename_i o ho
   split at e
   ·rename_i u hu
    split at e
    ·rename_i M4 CF
     injection e with e;subst e
     obtain ⟨h1,h2⟩:=Vp CF
     refine ⟨by simp [h1],λk j hk=>?_⟩
     cases k with
     | zero=>
      have:i=j:=by simpa using hk
      subst this
      exact ⟨o,u,ho,rfl,hu⟩
     | succ k=>simpa using h2 k j (by simpa using hk)
    ·cases e
   ·cases e
  ·cases e
def Vh (a b:aq):Bool:=
 match a,b with
 | .arr e xs,.arr e' fV=>Nat.beq e e'&&yO xs fV
 | .ro e xs,.ro e' fV=>Nat.beq e e'&&yO xs fV
 | _,_=>false
theorem aEp {a b:aq} (h:Vh a b=true):a=b:=by
 unfold Vh at h
 split at h
 ·rw [and_eq_true] at h
  rw [eq_of_beq_eq_true h.1,Dp h.2]
 ·rw [and_eq_true] at h
  rw [eq_of_beq_eq_true h.1,Dp h.2]
 ·cases h
def MF:ae->ae->Bool
 | [],_=>true
 | a::r,b::s=>Vh a b&&MF r s
 | _::_,[]=>false
theorem aqm:∀{h g:ae},MF h g=true->EX h g
 | [],g,_=>⟨zero_le _,λi hi=>by simp at hi⟩
 | a::r,b::s,e=>by
  simp only [MF,and_eq_true] at e
  obtain ⟨h1,h2⟩:=aqm e.2
  have:=aEp e.1
  subst this
  refine ⟨by simpa using h1,λi hi=>?_⟩
  cases i with
  | zero=>rfl
  | succ i=>simpa using h2 i (by simpa using hi)
 | _::_,[],e=>by cases e
def J4 (b:Nat):List Nat->Bool
 | []=>true
 | a::l=>Nat.ble b a&&J4 b l
theorem agK {b:Nat}:∀{l:List Nat},J4 b l=true->∀k∈l,b<=k
 | [],_,k,hk=>by simp at hk
 | a::l,h,k,hk=>by
  simp only [J4,and_eq_true] at h
  rcases mem_cons.1 hk with rfl | hk
  ·exact bJ h.1
  ·exact agK h.2 k hk
def SA (b:Nat):List Nat->List Nat
 | []=>[]
 | a::l=>match Nat.ble b a with | true=>a::SA b l | false=>SA b l
noncomputable def Sm (call:lT):lT:=λt args h=>
 match t with
 | .func F=>
  Ey (reach 400 h (Ul args []) []) λids=>
  match Bm (qp · ids) args,CY (qp · ids) h ids with
  | some zC,some h0=>
   Ew zC λzC=>zX h0 λh0=>
   match call (.func F) zC h0 with
   | some (v0,mD)=>
    match MF h0 mD&&FT ids with
    | true=>
     Ey (SA h0.length (reach 400 mD (aCD v0) [])) λis=>
     sS h.length λb=>
     match Mw (BU ids is b) v0,CY (BU ids is b) mD is with
     | some v,some os=>
      match FT is&&J4 h0.length is with
      | true=>Sf v λv=>zX os λos=>some (v,h++os)
      | false=>none
     | _,_=>call t args h
    | false=>call t args h
   | none=>none
  | _,_=>call t args h
 | _=>call t args h
theorem aAK {P:Program} {call:lT} (HC:sK P call):sK P (Sm call):=by
 constructor
 ·intro F args h v h' he
  simp only [Sm,agt,Sc,ags,Ex,aAv] at he
  split at he
  ·rename_i zC h0 ha ho
   split at he
   ·rename_i v0 mD jB
    split at he
    ·rename_i AH
     rw [and_eq_true] at AH
     split at he
     ·rename_i u os hu jj
      split at he
      ·rename_i ta
       rw [and_eq_true] at ta
       simp only [Option.some.injEq,Prod.mk.injEq] at he
       obtain ⟨rfl,rfl⟩:=he
       obtain ⟨a1,a2⟩:=Vp ho
       obtain ⟨b1,b2⟩:=Vp jj
       exact aCz (HC.fn _ _ _ _ _ jB) (Vc AH.2) a1 ha a2 (aqm AH.1) (Vc ta.1) (agK ta.2) hu b1 b2
      ·cases he
     ·exact HC.fn _ _ _ _ _ he
    ·exact HC.fn _ _ _ _ _ he
   ·cases he
  ·exact HC.fn _ _ _ _ _ he
 ·intro i args h v h' he
  exact HC.yi _ _ _ _ _ he
noncomputable def B9 (P:Program) (H:FuncId->Hints) (lf:Nat) (rr:lT):Nat->lT
 | 0=>λ_ _ _=>none
 | n+1=>λt args h=>
  match rr t args h with
  | some r=>some r
  | none=>Sm (JP P H lf (B9 P H lf rr n)) t args h
theorem ago {P:Program} {H:FuncId->Hints} {lf:Nat} {rr:lT} (HO:sK P rr):∀n,sK P (B9 P H lf rr n)
 | 0=>by constructor <;> (intro _ _ _ _ _ h;cases h)
 | n+1=>by
  have HS:=aAK (aAp (H:=H) (lf:=lf) (ago (H:=H) (lf:=lf) HO n))
  constructor
  ·intro F args h v h' he
   simp only [B9] at he
   split at he
   ·rename_i r hr;cases he;exact HO.fn _ _ _ _ _ hr
   ·exact HS.fn _ _ _ _ _ he
  ·intro i args h v h' he
   simp only [B9] at he
   split at he
   ·rename_i r hr;cases he;exact HO.yi _ _ _ _ _ hr
   ·exact HS.yi _ _ _ _ _ he
theorem aAo {P:Program} (H:FuncId->Hints) (lf n:Nat) {rr:lT} (HO:sK P rr) {F:FuncId} {args:List Value} {v:Value} (h:(B9 P H lf rr n (.func F) args []).map Prod.fst=some v):∃h',ue P F args [] v h':=by
 simp only [Option.map_eq_some_iff] at h
 obtain ⟨⟨u,h'⟩,h1,h2⟩:=h
 simp at h2
 subst h2
 exact ⟨h',(ago HO n).fn _ _ _ _ _ h1⟩
end
end Go.Sim
namespace Go.Proofs.YtelmdbpaoifmoaaGreat
open Go.Sim
section
set_option maxHeartbeats 0 in
theorem aDU:(B9 prog evH 1000 rr 30 (.func 14) [] []).map Prod.fst=some (.bool true):=by kernel_rfl
theorem Nw {h:ae} {K:Value->ae->Prop} (hk:K (.bool true) h):ak prog 14 [] h K:=by
 obtain ⟨h',hc⟩:=aAo evH 1000 30 aED aDU
 exact ayS (xG.gA rfl) hc rfl hk
end
section
open Go.Sim Go.ChangeShapes Go.WideShapes Go.ChangeAt Go.RowKit
set_option maxRecDepth 100000
theorem Tryz.own:ownKnob prog.godebug=none:=by kernel_rfl
theorem Tryz.laidOut:laidOutB prog=true:=by kernel_rfl
theorem ayW:prog.cellsOf 3=1:=by kernel_rfl
section
variable {H : Type} {enc : TypeId × Value -> H} {W : World} {ρ : aO} {h : ae}
theorem aDT {α:Type} {l:List α} (h:l.length=2):∃a b,l=[a,b]:=by
 match l,h with
 | [a,b],_=>exact ⟨a,b,rfl⟩
theorem aJQ {b:Nat} {t:TypeId} {e:TypeId} {v:Value} (ht:prog.underlying t=some (.slice e)) (aI:Cell.okWide prog W .any b t v):v.cells.toList=[v]:=by
 simp only [Cell.okWide,ht,Cell.ok] at aI
 cases v <;> simp at aI <;> rfl
end
end
end Go.Proofs.YtelmdbpaoifmoaaGreat
namespace Go.Sim
section
open Go.ChangeShapes Go.WideShapes Go.ChangeAt Go.RowKit
section
variable {P : Program} {W : World} {ρ : aO} {h : ae} {H : Type} {enc : TypeId × Value -> H}
theorem ayU {w:World} {a:Addr} {v:Value} (h:w.cell? a=some v):a.spot=none:=by
 unfold World.cell? at h
 split at h
 ·split at h
  ·cases h
  ·rename_i hs
   cases hh:a.spot with
   | none=>rfl
   | some x=>rw [hh] at hs;exact absurd rfl hs
 ·cases h
theorem aKl {t e:TypeId} (ht:P.underlying t=some (.slice e)) (iN:P.cellsOf e≠0) {fuel:Nat} {a:Addr} {len cap:Nat} {x:DataW H×List MemPlace}
  (hd:DataW.trod enc P W 0 (λ_=>true) true fuel t [.slice (some a) len cap]=some x):a.spot=none∨(len=0/\cap=0):=by
 rcases DataW.trod_slice ht hd with ⟨h1,_⟩ | ⟨a',aLz,Js,agi,rest,n,_,h1,_,hb,hl,hm,hlen,ER,wC,_⟩
 ·simp at h1
 ·simp only [List.cons.injEq,Value.slice.injEq,Option.some.injEq,and_true] at h1
  obtain ⟨rfl,rfl,rfl⟩:=h1
  by_cases hc:cap=0
  ·exact .inr ⟨by omega,hc⟩
  ·left
   obtain ⟨KF,hr⟩:=wC rfl
   have jZ:∃y,(W.cells? 0 (a.add (0*P.cellsOf e)) (P.cellsOf e)).bind (DataW.trod enc P W 0 (λ_=>true) true n e)=some y:=by
    by_cases bn:0<len
    ·rw [ER 0 bn,getElem?_eq_getElem (by omega)]
     exact ⟨_,rfl⟩
    ·have:=hr (0-len) (by omega)
     rw [show len+(0-len)=0 by omega] at this
     rw [this,getElem?_eq_getElem (by omega)]
     exact ⟨_,rfl⟩
   obtain ⟨y,hy⟩:=jZ
   rw [Option.bind_eq_some_iff] at hy
   obtain ⟨cs,h1,_⟩:=hy
   obtain ⟨_,g2,g3⟩:=World.cells?_some h1
   have:=g3 0 (by omega)
   rw [getElem?_eq_getElem (by omega)] at this
   have e1:a.add (0*P.cellsOf e)=a:=by rw [Nat.zero_mul];rfl
   have e2:a.add 0=a:=rfl
   rw [e1,e2] at this
   exact ayU this
theorem aAa {t e:TypeId} (ht:P.underlying t=some (.slice e)) (iN:P.cellsOf e≠0)
  (flat:∀n cs y,DataW.trod enc P W 0 (λ_=>true) true n e cs=some y->cs.length=P.cellsOf e/\∀x∈cs,gA x=true)
  {fuel:Nat} {v:Value} {x:DataW H×List MemPlace} (hd:DataW.trod enc P W 0 (λ_=>true) true fuel t [v]=some x) (HR:a9 P ρ h W) (jE:mh h):
  ∃(av:aO) (g:ae) (v':Value) (n:Nat) (xs:List Value),ρ.le av/\a9 P av (h++g) W/\mh (h++g)/\aC av v' v/\gF v'=true/\
   (((v'=.slice none 0 0∨v'=.slice none 0 1)/\n=0)∨∃i,v'=sl e i 0 n/\(n=0∨aW (h++g) i=some xs))/\xs.length=n*P.cellsOf e/\(∀y∈xs,gA y=true)/\
   ∀i,i<n->∃m y,DataW.trod enc P W 0 (λ_=>true) true m e ((xs.drop (i*P.cellsOf e)).take (P.cellsOf e))=some y:=by
 by_cases hv:∃a,v=.slice (some a) 0 0/\a.spot≠none
 ·obtain ⟨a,rfl,_⟩:=hv
  exact ⟨ρ,[],.slice none 0 1,0,[],.refl _,by simpa using HR,by simpa using jE,.void a,rfl,.inl ⟨.inr rfl,rfl⟩,by simp,by simp,λi hi=>by omega⟩
 ·have hs:∀(a:Addr) (len cap:Nat),v=.slice (some a) len cap->a.spot=none:=by
   rintro a len cap rfl
   rcases aKl ht iN hd with h1 | ⟨rfl,rfl⟩
   ·exact h1
   ·apply byContradiction
    intro hc
    exact hv ⟨a,rfl,hc⟩
  obtain ⟨av,g,v',n,xs,e1,e2,e3,e4,e5,e6,e7⟩:=aAc ht iN flat hd hs HR jE
  exact ⟨av,g,v',n,xs,e1,e2,e3,e4,e5,e6.imp (λ⟨a,b⟩=>⟨.inl a,b⟩) id,e7⟩
theorem aAb {I:Type} {t e:TypeId} (ht:P.underlying t=some (.slice e)) (iN:P.cellsOf e≠0) (Q:ae->List Value->I->Prop) (hQ:∀{h g:ae} {row:List Value} {i:I},Q h row i->Q (h++g) row i)
  (aB6:∀{ρ:aO} {h:ae} (n:Nat) (cs:List Value) (y:DataW H×List MemPlace),DataW.trod enc P W 0 (λ_=>true) true n e cs=some y->a9 P ρ h W->mh h->
   ∃(av:aO) (g:ae) (row:List Value) (i:I),ρ.le av/\a9 P av (h++g) W/\mh (h++g)/\bR av row cs/\(∀x∈row,gF x=true)/\row.length=P.cellsOf e/\Q (h++g) row i)
  {fuel b:Nat} {v:Value} {x:DataW H×List MemPlace} (hd:DataW.trod enc P W 0 (λ_=>true) true fuel t [v]=some x) (aI:Cell.okWide P W .any b t v) (HR:a9 P ρ h W) (jE:mh h):
  ∃(av:aO) (g:ae) (v':Value) (rows:List (List Value)) (is:List I),ρ.le av/\a9 P av (h++g) W/\mh (h++g)/\aC av v' v/\gF v'=true/\
   ((v'=.slice none 0 0/\rows=[])∨∃i,v'=sl e i 0 rows.length/\(rows=[]∨aW (h++g) i=some rows.flatten))/\(∀r∈rows,r.length=P.cellsOf e)/\rows.length=is.length/\
   ∀(k:Nat) (row:List Value) (i:I),rows[k]?=some row->is[k]?=some i->Q (h++g) row i:=by
 rcases DataW.trod_slice ht hd with ⟨h1,_⟩ | ⟨a,len,cap,agi,rest,n,_,h1,_,hb,hl,hm,hlen,ER,wC,_⟩
 ·obtain rfl:v=.slice none 0 0:=by simpa using h1
  exact ⟨ρ,[],.slice none 0 0,[],[],.refl _,by simpa using HR,by simpa using jE,.qo,rfl,.inl ⟨rfl,rfl⟩,by simp,rfl,λk row i hk=>by simp at hk⟩
 ·obtain rfl:v=.slice (some a) len cap:=by simpa using h1
  have qY:a.spot=none:=by
   simp only [Cell.okWide,ht,Cell.ok] at aI
   exact aI.2.2.2.1
  obtain ⟨KF,hr⟩:=wC rfl
  by_cases sZ:cap=0
  ·subst sZ
   obtain rfl:len=0:=by omega
   obtain ⟨H',yu,hle⟩:=HR.HQ jE (r:=⟨a.block,a.off,e,P.cellsOf e,a.off⟩) rfl (.inl rfl) trivial
   refine ⟨_,[.dead],sl e h.length 0 0,[],[],hle,H',yu,?_,rfl,.inr ⟨_,rfl,.inl rfl⟩,by simp,rfl,λk row i hk=>by simp at hk⟩
   obtain ⟨ab,ao,sO⟩:=a
   simp only at qY
   subst qY
   exact aC.slice (ρ:=ρ.add h.length ⟨ab,ao,e,P.cellsOf e,ao⟩) (i:=h.length) (o:=0) (n:=0) (o':=ao) (c':=0) (r:=⟨ab,ao,e,P.cellsOf e,ao⟩) (by simp [aO.add]) (.inl rfl) (le_refl _) (by unfold maxLen;omega) (by simp)
  ·have yk:0<P.cellsOf e:=by omega
   have each:∀i,i<cap->∃cs y,W.cells? 0 (a.add (i*P.cellsOf e)) (P.cellsOf e)=some cs/\DataW.trod enc P W 0 (λ_=>true) true n e cs=some y:=by
    intro i hi
    have jZ:∃y,(W.cells? 0 (a.add (i*P.cellsOf e)) (P.cellsOf e)).bind (DataW.trod enc P W 0 (λ_=>true) true n e)=some y:=by
     by_cases bn:i<len
     ·rw [ER i bn,getElem?_eq_getElem (by omega)]
      exact ⟨_,rfl⟩
     ·have:=hr (i-len) (by omega)
      rw [show len+(i-len)=i by omega] at this
      rw [this,getElem?_eq_getElem (by omega)]
      exact ⟨_,rfl⟩
    obtain ⟨y,hy⟩:=jZ
    rw [Option.bind_eq_some_iff] at hy
    obtain ⟨cs,h1,h2⟩:=hy
    exact ⟨cs,y,h1,h2⟩
   have SQ:∃c tt fr,W.heap[a.block]?=some (.cells c tt fr):=by
    obtain ⟨cs,y,h1,h2⟩:=each 0 (by omega)
    obtain ⟨_,g2,g3⟩:=World.cells?_some h1
    have:=g3 0 yk
    rw [Nat.zero_mul,addr_eq qY 0,addr_eq rfl 0,getElem?_eq_getElem (by omega)] at this
    unfold World.cell? at this
    split at this
    ·rename_i c tt fr hh;exact ⟨c,tt,fr,hh⟩
    ·cases this
   obtain ⟨c,tt,fr,pX⟩:=SQ
   have get:∀i cs,W.cells? 0 (a.add (i*P.cellsOf e)) (P.cellsOf e)=some cs->cs.length=P.cellsOf e/\∀j,j<P.cellsOf e->c[a.off+(i*P.cellsOf e+j)]?=cs[j]?:=by
    intro i cs h1
    obtain ⟨_,g2,g3⟩:=World.cells?_some h1
    refine ⟨g2,λj hj=>?_⟩
    have:=g3 j hj
    rw [addr_eq qY,addr_eq rfl] at this
    simp only [World.cell?,pX] at this
    simpa [Nat.add_assoc] using this
   have TO:a.off+cap*P.cellsOf e<=c.size:=by
    obtain ⟨cs,y,h1,_⟩:=each (cap-1) (by omega)
    obtain ⟨g1,g2⟩:=get _ _ h1
    have:=g2 (P.cellsOf e-1) (by omega)
    rw [getElem?_eq_getElem (by omega)] at this
    have:=(Array.getElem?_eq_some_iff.1 this).1
    have e1:cap*P.cellsOf e=(cap-1)*P.cellsOf e+P.cellsOf e:=by
     obtain ⟨m,rfl⟩:∃m,cap=m+1:=⟨cap-1,by omega⟩
     rw [Nat.add_sub_cancel,Nat.succ_mul]
    omega
   -- gB rows,one after gB other
   have go:∀k,k<=len->∃(av:aO) (g:ae) (rows:List (List Value)) (is:List I),ρ.le av/\a9 P av (h++g) W/\mh (h++g)/\rows.length=k/\is.length=k/\(∀r∈rows,r.length=P.cellsOf e)/\
     (∀(i:Nat) (row:List Value) (q:I),rows[i]?=some row->is[i]?=some q->Q (h++g) row q)/\
     ∀(j:Nat) (x:Value),rows.flatten[j]?=some x->gF x=true/\∃y,c[a.off+j]?=some y/\aC av x y:=by
    intro k
    induction k with
    | zero=>intro _;exact ⟨ρ,[],[],[],.refl _,by simpa using HR,by simpa using jE,rfl,rfl,by simp,λi row q hk=>by simp at hk,λj x hj=>by simp at hj⟩
    | succ k ih=>
     intro hk
     obtain ⟨pc,g1,rows,is,a1,a2,a3,a4,a5,a6,a7,a8⟩:=ih (by omega)
     obtain ⟨cs,y,c1,c2⟩:=each k (by omega)
     obtain ⟨d1,d2⟩:=get _ _ c1
     obtain ⟨nm,g2,row,q,b1,b2,b3,b4,b5,b6,b7⟩:=aB6 n cs y c2 a2 a3
     rw [append_assoc] at b2 b3 b7
     have qP:rows.flatten.length=k*P.cellsOf e:=by
      have:∀{l:List (List Value)},(∀r∈l,r.length=P.cellsOf e)->l.flatten.length=l.length*P.cellsOf e:=by
       intro l
       induction l with
       | nil=>intro _;simp
       | cons r l ih=>
        intro hl
        rw [List.flatten_cons,List.length_append,hl r (by simp),ih λx hx=>hl x (by simp [hx]),length_cons,Nat.succ_mul,Nat.add_comm]
      rw [this a6,a4]
     refine ⟨nm,g1++g2,rows++[row],is++[q],a1.trans b1,b2,b3,by simp [a4],by simp [a5],?_,?_,?_⟩
     ·intro r hr
      rcases mem_append.1 hr with hr | hr
      ·exact a6 r hr
      ·rw [List.mem_singleton.1 hr];exact b6
     ·intro i aIS q' h1 h2
      by_cases hi:i<rows.length
      ·rw [getElem?_append_left hi] at h1
       rw [getElem?_append_left (by omega)] at h2
       rw [<-append_assoc]
       exact hQ (a7 i aIS q' h1 h2)
      ·have iA:i=k:=by
        have:=(bz h1).1
        simp at this;omega
       subst iA
       rw [getElem?_append_right (by omega),show i-rows.length=0 by omega] at h1
       rw [getElem?_append_right (by omega),show i-is.length=0 by omega] at h2
       simp only [List.getElem?_cons_zero,Option.some.injEq] at h1 h2
       subst h1 h2
       exact b7
     ·intro j x hj
      rw [List.flatten_append] at hj
      by_cases aF:j<rows.flatten.length
      ·rw [getElem?_append_left aF] at hj
       obtain ⟨q1,z,q2,q3⟩:=a8 j x hj
       exact ⟨q1,z,q2,q3.mono b1⟩
      ·rw [getElem?_append_right (by omega),qP] at hj
       simp only [List.flatten_cons,List.flatten_nil,List.append_nil] at hj
       have pB:=(bz hj).1
       obtain ⟨z,q2,q3⟩:=b4.get hj
       refine ⟨b5 x (List.mem_of_getElem? hj),z,?_,q3⟩
       have:=d2 (j-k*P.cellsOf e) (by omega)
       rw [show k*P.cellsOf e+(j-k*P.cellsOf e)=j by omega] at this
       rw [this];exact q2
   obtain ⟨pc,g1,rows,is,a1,a2,a3,a4,a5,a6,a7,a8⟩:=go len (le_refl _)
   obtain ⟨H',yu,hle⟩:=a2.HQ a3 (r:=⟨a.block,a.off,e,P.cellsOf e,c.size⟩) (o:=.ro e rows.flatten) rfl (.inr ⟨e,_,rfl⟩) ⟨rfl,c,tt,fr,pX,rfl,λj y hj=>by
    obtain ⟨q1,z,q2,q3⟩:=a8 j y hj
    exact ⟨q1,z,q2,q3.mono (aO.uY a2.none)⟩⟩
   rw [append_assoc] at H' yu
   refine ⟨_,g1++[.ro e rows.flatten],sl e (h++g1).length 0 rows.length,rows,is,a1.trans hle,H',yu,?_,rfl,.inr ⟨_,rfl,.inr ?_⟩,a6,by omega,λk row i h1 h2=>?_⟩
   ·obtain ⟨ab,ao,sO⟩:=a
    simp only at qY
    subst qY
    rw [a4]
    exact aC.slice (ρ:=pc.add (h++g1).length ⟨ab,ao,e,P.cellsOf e,c.size⟩) (i:=(h++g1).length) (o:=0) (n:=len) (o':=ao) (c':=cap) (r:=⟨ab,ao,e,P.cellsOf e,c.size⟩) (by simp [aO.add]) (.inl rfl) hl hm TO
   ·rw [<-append_assoc]
    simp [aW]
   ·rw [<-append_assoc]
    exact hQ (a7 k row i h1 h2)
end
end
end Go.Sim
namespace Go.Proofs.YtelmdbpaoifmoaaGreat
open Go.Sim
section
section
variable {h : ae} {id : Nat}
abbrev hb (h:ae) (id:Nat) (xs:List UInt8):ae:=h.set id (.arr 5 (xs.map cv))
theorem Kb (jC:id<h.length) (xs:List UInt8):(hb h id xs)[id]?=some (.arr 5 (xs.map cv)):=by simp [hb,jC]
theorem ag7 (jC:id<h.length) {xs:List UInt8} {j:Nat} {c:UInt8} (hj:xs[j]?=some c):af false 1 (hb h id xs) (pt id j)=some (cv c):=by
 simp [af,aW,Kb jC,cP,hj]
theorem ag8 (jC:id<h.length) {xs:List UInt8} {j:Nat} (c:UInt8) (hj:j<xs.length):aG 1 (hb h id xs) (pt id j) (cv c)=some (undef,hb h id (xs.set j c)):=by
 rw [qx (Kb jC xs) (by simpa using hj) rfl rfl]
 simp [hb,List.map_set]
end
end
section
variable (P : Program) (K : VK)
noncomputable section
variable (n0 x2 u3 : Value) (h : ae)
def aka:=bE prog 105 [[],[],[],[0,2,3],[]]
@[irreducible] def QJ:=bM aka
@[irreducible] def avt:=QJ.r.r.r.l
theorem aC5:aka=some (20,QJ,[.cell true 2 2]):=by kernel_rfl
def arV (_P:Program) (K:VK):ar:=aT [.cell true 2 2] K
def LB:Prop:=ax (aj P avt (arV P K)) [0,2,3] [n0,x2,u3] h
theorem aE9:LB P K n0 x2 u3 h=
 (OP (ai .lss n0 (.int .i64 (0))) λau=>
 OP (dG .u32 u3) λaB=>
 OP (ai .shr u3 (.int .u64 (32))) λaP=>
 OP (dG .u32 aP) λaL=>
 OH (dN 177 2 [(.int .u32 (0))] h [(0,1,aB),(1,1,aL)]) λbK z1=>
 ak P 118 [bK] z1 λaS z2=>
 ak P 117 [au,aS] z2 λaK z3=>
 OH (aG 2 z3 x2 aK) λ_ z4=>
 OP (af true 2 z4 x2) λr0=>
 K r0 z4):=az (by kernel_rfl)
def OL:Prop:=
 OH (aV 105 [(.bool false),(.slice none 0 0)] h) λx2 z1=>
 OP (dG .u64 n0) λx5=>
 OP (ai .lss n0 (.int .i64 (0))) λx7=>
 aN x7
 (OP (gq .neg x5) λx9=>
 LB P K n0 x2 x9 z1)
 (LB P K n0 x2 x5 z1)
theorem azt:aj P QJ (aT [.cell true 2 2] K) (bw [n0]) h=OL P K n0 h:=by kernel_rfl
theorem f105 {K:VK} {n0:Value} {h:ae} (H:OL prog K n0 h):ak prog 105 [n0] h K:=
 bN aC5 (bJ rfl) ((azt prog K n0 h).mpr H)
end
noncomputable section
variable (a0 b1 : Value) (h : ae)
def akc:=bE prog 107 [[],[]]
@[irreducible] def ab3:=bM akc
theorem aC7:akc=some (16,ab3,[.cell true 2 4]):=by kernel_rfl
def ON:Prop:=
 OH (bp 105 h a0) λa2 z1=>
 OH (bp 105 z1 b1) λb3 z2=>
 OH (aV 105 [(.bool false),(.slice none 0 0)] z2) λx4 z3=>
 OP (aJ 0 a2) λx5=>
 OP (af false 1 z3 x5) λx6=>
 (True)/\
 OP (aJ 0 b3) λx7=>
 OP (af false 1 z3 x7) λx8=>
 (True)/\
 OP (uQ true x6 x8) λx9=>
 OP (aJ 1 a2) λay=>
 OP (af false 1 z3 ay) λau=>
 (True)/\
 OP (aJ 1 b3) λaD=>
 OP (af false 1 z3 aD) λaB=>
 (True)/\
 ak P 122 [au,aB] z3 λaA z4=>
 (af false 1 z4 x5=some x6/\af false 1 z4 x7=some x8/\True)/\
 ak P 117 [x9,aA] z4 λaP z5=>
 (True)/\
 OH (aG 2 z5 x4 aP) λ_ z6=>
 (True)/\
 OP (af true 2 z6 x4) λr0=>
 K r0 z6
theorem azv:aj P ab3 (aT [.cell true 2 4] K) (bw [a0,b1]) h=ON P K a0 b1 h:=by kernel_rfl
theorem f107 {K:VK} {a0 b1:Value} {h:ae} (H:ON prog K a0 b1 h):ak prog 107 [a0,b1] h K:=
 bN aC7 (bJ rfl) ((azv prog K a0 b1 h).mpr H)
end
noncomputable section
variable (a0 : Value) (h : ae)
def ake:=bE prog 109 [[],[],[],[],[],[],[]]
@[irreducible] def acb:=bM ake
theorem aC9:ake=some (11,acb,[.tmp 2]):=by kernel_rfl
def OQ (_:Program) (K:VK) (a0:Value) (h:ae):Prop:=
 OH (bp 105 h a0) λa1 z1=>
 OP (aJ 1 a1) λx4=>
 OP (af false 1 z1 x4) λx5=>
 OP (bk x5) λx6=>
 OP (ai .eql x6 (.int .i64 (0))) λx7=>
 aN x7
 (K (.int .i64 (0)) z1)
 (OP (aJ 0 a1) λx9=>
 OP (af false 1 z1 x9) λay=>
 aN ay
 (K (.int .i64 (-1)) z1)
 (K (.int .i64 (1)) z1))
theorem azx:aj P acb (aT [.tmp 2] K) (bw [a0]) h=OQ P K a0 h:=by kernel_rfl
theorem f109 {K:VK} {a0:Value} {h:ae} (H:OQ prog K a0 h):ak prog 109 [a0] h K:=
 bN aC9 (bJ rfl) ((azx prog K a0 h).mpr H)
end
noncomputable section
variable (a0 b1 : Value) (h : ae)
def akh:=bE prog 111 [[],[]]
@[irreducible] def acd:=bM akh
theorem aDb:akh=some (9,acd,[.tmp 4]):=by kernel_rfl
def OT:Prop:=
 OH (bp 105 h a0) λa2 z1=>
 OH (bp 105 z1 b1) λb3 z2=>
 OP (af true 2 z2 a2) λx5=>
 OP (af true 2 z2 b3) λx6=>
 ak P 127 [x5,x6] z2 λx7 z3=>
 ak P 109 [x7] z3 λx8 z4=>
 K x8 z4
theorem azz:aj P acd (aT [.tmp 4] K) (bw [a0,b1]) h=OT P K a0 b1 h:=by kernel_rfl
theorem f111 {K:VK} {a0 b1:Value} {h:ae} (H:OT prog K a0 b1 h):ak prog 111 [a0,b1] h K:=
 bN aDb (bJ rfl) ((azz prog K a0 b1 h).mpr H)
end
noncomputable section
variable (n0 : Value) (h : ae)
def aki:=bE prog 112 [[],[]]
@[irreducible] def ace:=bM aki
theorem aDc:aki=some (6,ace,[.cell true 4 2]):=by kernel_rfl
def OU:Prop:=
 OH (bp 105 h n0) λn1 z1=>
 OH (aV 107 [(.bool false),(.slice none 0 0),(.bool false),(.slice none 0 0)] z1) λx2 z2=>
 OP (af true 2 z2 n1) λx3=>
 (True)/\
 ak P 105 [(.int .i64 (1))] z2 λx4 z3=>
 (af true 2 z3 n1=some x3/\True)/\
 OP (dC [(.bool false),(.slice none 0 0),(.bool false),(.slice none 0 0)] [(0,2,x3),(2,2,x4)]) λx5=>
 OH (aG 4 z3 x2 x5) λ_ z4=>
 (True)/\
 OP (af true 4 z4 x2) λr0=>
 K r0 z4
theorem azA:aj P ace (aT [.cell true 4 2] K) (bw [n0]) h=OU P K n0 h:=by kernel_rfl
theorem f112 {K:VK} {n0:Value} {h:ae} (H:OU prog K n0 h):ak prog 112 [n0] h K:=
 bN aDc (bJ rfl) ((azA prog K n0 h).mpr H)
end
noncomputable section
variable (a0 b1 : Value) (h : ae)
def akj:=bE prog 113 [[],[],[],[],[],[],[]]
@[irreducible] def acf:=bM akj
theorem aDd:akj=some (42,acf,[.cell true 2 4]):=by kernel_rfl
def OV:Prop:=
 OH (bp 105 h a0) λa2 z1=>
 OH (bp 105 z1 b1) λb3 z2=>
 OH (aV 105 [(.bool false),(.slice none 0 0)] z2) λx4 z3=>
 OP (aJ 0 a2) λx6=>
 OP (af false 1 z3 x6) λx7=>
 OP (aJ 0 b3) λx8=>
 OP (af false 1 z3 x8) λx9=>
 OP (uQ false x7 x9) λay=>
 aN ay
 (OP (aJ 0 a2) λau=>
 OP (af false 1 z3 au) λaD=>
 (True)/\
 OP (aJ 1 a2) λaB=>
 OP (af false 1 z3 aB) λaA=>
 (True)/\
 OP (aJ 1 b3) λaP=>
 OP (af false 1 z3 aP) λaL=>
 (True)/\
 ak P 128 [aA,aL] z3 λbK z4=>
 (af false 1 z4 au=some aD/\True)/\
 ak P 117 [aD,bK] z4 λaS z5=>
 (True)/\
 OH (aG 2 z5 x4 aS) λ_ z6=>
 (True)/\
 OP (af true 2 z6 x4) λr0=>
 K r0 z6)
 (OP (aJ 1 a2) λaU=>
 OP (af false 1 z3 aU) λba=>
 OP (aJ 1 b3) λbO=>
 OP (af false 1 z3 bO) λcB=>
 ak P 126 [ba,cB] z3 λbL z4=>
 OP (ai .geq bL (.int .i64 (0))) λbX=>
 aN bX
 (OP (aJ 0 a2) λcV=>
 OP (af false 1 z4 cV) λb9=>
 (True)/\
 OP (aJ 1 a2) λcG=>
 OP (af false 1 z4 cG) λcM=>
 (True)/\
 OP (aJ 1 b3) λdm=>
 OP (af false 1 z4 dm) λcC=>
 (True)/\
 ak P 129 [cM,cC] z4 λbV z5=>
 (af false 1 z5 cV=some b9/\True)/\
 ak P 117 [b9,bV] z5 λdK z6=>
 (True)/\
 OH (aG 2 z6 x4 dK) λ_ z7=>
 (True)/\
 OP (af true 2 z7 x4) λr0=>
 K r0 z7)
 (OP (aJ 0 b3) λcK=>
 OP (af false 1 z4 cK) λdw=>
 (True)/\
 OP (aJ 1 b3) λdc=>
 OP (af false 1 z4 dc) λer=>
 (True)/\
 OP (aJ 1 a2) λdO=>
 OP (af false 1 z4 dO) λeY=>
 (True)/\
 ak P 129 [er,eY] z4 λeJ z5=>
 (af false 1 z5 cK=some dw/\True)/\
 ak P 117 [dw,eJ] z5 λdW z6=>
 (True)/\
 OH (aG 2 z6 x4 dW) λ_ z7=>
 (True)/\
 OP (af true 2 z7 x4) λr0=>
 K r0 z7))
theorem azB:aj P acf (aT [.cell true 2 4] K) (bw [a0,b1]) h=OV P K a0 b1 h:=by kernel_rfl
theorem f113 {K:VK} {a0 b1:Value} {h:ae} (H:OV prog K a0 b1 h):ak prog 113 [a0,b1] h K:=
 bN aDd (bJ rfl) ((azB prog K a0 b1 h).mpr H)
end
noncomputable section
variable (a0 w1 x6 x7 i8 : Value) (L1 : LQ) (xs : List Value) (h : ae)
def akk:=bE prog 114 [[],[],[],[],[0,1,6],[7,8],[],[],[],[],[6,7],[]]
@[irreducible] def Im:=bM akk
@[irreducible] def avC:=Im.r.r.r.l.r.l.l
@[irreducible] def acg:=Im.r.r.r.r
@[irreducible] def avB:=acg.l
theorem aDe:akk=some (44,Im,[.tmp 4,.tmp 5]):=by kernel_rfl
def NR (_P:Program) (K:VK):ar:=aT [.tmp 4,.tmp 5] K
def ar0:ar:=aH (aj P acg (NR P K)) (NR P K)
def ar1:ar:=bH 0 (ar0 P K)
def ar2:ar:=aH (λf' aX=>(([0,1,6]:List Nat).map f':List Value)=[a0,w1,x6]/\L1 (([7,8]:List Nat).map f') aX) (ar1 P K)
def amg:Prop:=ax (aj P avC (ar2 P K a0 w1 x6 L1)) ([0,1,6]++[7,8]) ([a0,w1,x6]++xs) h
def amf:Prop:=ax (aj P avB (NR P K)) [6,7] [x6,x7] h
theorem aFg (a0 w1 x6:Value) (L1:LQ) (x7 i8:Value) (h:ae):amg P K a0 w1 x6 L1 [x7,i8] h=
 (OP (ai .geq i8 (.int .i64 (0))) λbK=>
 aN bK
 (OP (ai .shl x7 (.int .u64 (32))) λba=>
 OP (aZ 1 a0 i8) λbL=>
 OP (af false 1 h bL) λbX=>
 OP (dG .u64 bX) λcV=>
 OP (ai .or ba cV) λb9=>
 OP (dG .u64 w1) λbV=>
 OP (ai .quo b9 bV) λdK=>
 OP (dG .u32 dK) λcK=>
 OP (dG .u64 w1) λer=>
 OP (ai .rem b9 er) λdO=>
 OP (aZ 1 x6 i8) λeY=>
 OH (aG 1 h eY cK) λ_ z1=>
 (True)/\
 OP (ai .sub i8 (.int .i64 (1))) λaK=>
 ([a0,w1,x6]:List Value)=[a0,w1,x6]/\L1 [dO,aK] z1)
 (amf P K x6 x7 h)):=az (by kernel_rfl)
theorem aFf:amf P K x6 x7 h=
 (ak P 118 [x6] h λdW z1=>
 OP (dG .u32 x7) λcj=>
 K (.tuple #[dW,cj]) z1):=az (by kernel_rfl)
def OW:Prop:=
 OP (bk a0) λau=>
 OH (lI 177 4 [(.int .u32 (0))] h au au) λaD z1=>
 OP (bk a0) λaA=>
 OP (ai .sub aA (.int .i64 (1))) λaP=>
 cO [(.int .u64 (0)),aP] z1 λL1 xs hx=>
 amg P K a0 w1 aD L1 xs hx
theorem azC:aj P Im (aT [.tmp 4,.tmp 5] K) (bw [a0,w1]) h=OW P K a0 w1 h:=by kernel_rfl
theorem f114 {K:VK} {a0 w1:Value} {h:ae} (H:OW prog K a0 w1 h):ak prog 114 [a0,w1] h K:=
 bN aDe (bJ rfl) ((azC prog K a0 w1 h).mpr H)
end
noncomputable section
variable (s0 i2 j3 : Value) (L1 : LQ) (xs : List Value) (h : ae)
def akl:=bE prog 115 [[],[0],[2,3],[],[],[]]
@[irreducible] def QM:=bM akl
@[irreducible] def avD:=QM.r.l.l
theorem aDf:akl=some (28,QM,[]):=by kernel_rfl
def ar3 (_P:Program) (K:VK):ar:=aT [] K
def ar4:ar:=bH 0 (ar3 P K)
def ar5:ar:=aH (λf' aX=>(([0]:List Nat).map f':List Value)=[s0]/\L1 (([2,3]:List Nat).map f') aX) (ar4 P K)
def amh:Prop:=ax (aj P avD (ar5 P K s0 L1)) ([0]++[2,3]) ([s0]++xs) h
theorem aFh (s0:Value) (L1:LQ) (i2 j3:Value) (h:ae):amh P K s0 L1 [i2,j3] h=
 (OP (ai .lss i2 j3) λx9=>
 aN x9
 (OP (aZ 1 s0 j3) λaU=>
 OP (af false 1 h aU) λba=>
 (True)/\
 OP (aZ 1 s0 i2) λbL=>
 OP (af false 1 h bL) λbX=>
 (True)/\
 OP (aZ 1 s0 i2) λcV=>
 OH (aG 1 h cV ba) λ_ z1=>
 (True)/\
 OP (aZ 1 s0 j3) λb9=>
 OH (aG 1 z1 b9 bX) λ_ z2=>
 (True)/\
 OP (ai .add i2 (.int .i64 (1))) λau=>
 OP (ai .sub j3 (.int .i64 (1))) λaB=>
 ([s0]:List Value)=[s0]/\L1 [au,aB] z2)
 (K (.tuple #[]) h)):=az (by kernel_rfl)
def OX:Prop:=
 OP (bk s0) λx5=>
 OP (ai .sub x5 (.int .i64 (1))) λx6=>
 cO [(.int .i64 (0)),x6] h λL1 xs hx=>
 amh P K s0 L1 xs hx
theorem azD:aj P QM (aT [] K) (bw [s0]) h=OX P K s0 h:=by kernel_rfl
theorem f115 {K:VK} {s0:Value} {h:ae} (H:OX prog K s0 h):ak prog 115 [s0] h K:=
 bN aDf (bJ rfl) ((azD prog K s0 h).mpr H)
end
noncomputable section
variable (x0 x1 x4 x6 x9 : Value) (h : ae)
def akn:=bE prog 117 [[],[1,4,6],[1,4,6,9],[]]
@[irreducible] def Io:=bM akn
@[irreducible] def aci:=Io.r.l.r.l
@[irreducible] def avE:=Io.r.r
@[irreducible] def avF:=aci.r.l
theorem aDh:akn=some (13,Io,[.cell true 2 4]):=by kernel_rfl
def ZT (_P:Program) (K:VK):ar:=aT [.cell true 2 4] K
def ZU:ar:=aH (aj P avE (ZT P K)) (ZT P K)
def ami:Prop:=ax (aj P aci (ZU P K)) [1,4,6] [x1,x4,x6] h
def F3:Prop:=ax (aj P avF (ZU P K)) [1,4,6,9] [x1,x4,x6,x9] h
theorem apd:F3 P K x1 x4 x6 x9 h=
 (OP (bF x6 x9 (.bool false)) λay=>
 OP (dC [(.bool false),(.slice none 0 0)] [(0,1,ay),(1,1,x1)]) λaD=>
 OH (aG 2 h x4 aD) λ_ z1=>
 OP (af true 2 z1 x4) λr0=>
 K r0 z1):=az (by kernel_rfl)
theorem aFi:ami P K x1 x4 x6 h=
 (ck x6 true
 (OP (bk x1) λx8=>
 OP (ai .gtr x8 (.int .i64 (0))) λx9=>
 F3 P K x1 x4 x6 x9 h)
 (F3 P K x1 x4 x6 undef h)):=az (by kernel_rfl)
def OZ:Prop:=
 OH (aV 105 [(.bool false),(.slice none 0 0)] h) λx4 z1=>
 ami P K x1 x4 x0 z1
theorem azF:aj P Io (aT [.cell true 2 4] K) (bw [x0,x1]) h=OZ P K x0 x1 h:=by kernel_rfl
theorem f117 {K:VK} {x0 x1:Value} {h:ae} (H:OZ prog K x0 x1 h):ak prog 117 [x0,x1] h K:=
 bN aDh (bJ rfl) ((azF prog K x0 x1 h).mpr H)
end
noncomputable section
variable (x0 x6 aB : Value) (L1 : LQ) (xs : List Value) (h : ae)
def ako:=bE prog 118 [[],[],[0],[0,6],[0,6,13],[],[],[0],[]]
@[irreducible] def Ip:=bM ako
@[irreducible] def Iq:=Ip.r.l.l.l
@[irreducible] def acj:=Ip.r.r
@[irreducible] def ack:=Iq.l.l.r.l
@[irreducible] def avJ:=Iq.l.r
@[irreducible] def avI:=Iq.r
@[irreducible] def avH:=acj.l
@[irreducible] def avG:=ack.r.l
theorem aDi:ako=some (21,Ip,[.tmp 2]):=by kernel_rfl
def NT (_P:Program) (K:VK):ar:=aT [.tmp 2] K
def ar6:ar:=aH (aj P acj (NT P K)) (NT P K)
def ar7:ar:=bH 0 (ar6 P K)
def NU:ar:=aH (λf' aX=>(([]:List Nat).map f':List Value)=[]/\L1 (([0]:List Nat).map f') aX) (ar7 P K)
def ZW:ar:=aH (aj P avI (NU P K L1)) (NU P K L1)
def ZX:ar:=aH (aj P avJ (ZW P K L1)) (ZW P K L1)
def amj:Prop:=ax (aj P Iq (NU P K L1)) ([]++[0]) ([]++xs) h
def amk:Prop:=ax (aj P ack (ZX P K L1)) [0,6] [x0,x6] h
def VE:Prop:=ax (aj P avG (ZX P K L1)) [0,6,13] [x0,x6,aB] h
def VF:Prop:=ax (aj P avH (NT P K)) [0] [x0] h
theorem ape:VE P K x0 x6 aB L1 h=
 (OP (bF x6 aB (.bool false)) λaA=>
 aN aA
 (OP (bk x0) λbK=>
 OP (ai .sub bK (.int .i64 (1))) λaS=>
 OP (nX 177 1 x0 none (some aS)) λaK=>
 ([]:List Value)=[]/\L1 [aK] h)
 (VF P K x0 h)):=az (by kernel_rfl)
theorem apf:amk P K x0 x6 L1 h=
 (ck x6 true
 (OP (bk x0) λx9=>
 OP (ai .sub x9 (.int .i64 (1))) λay=>
 OP (aZ 1 x0 ay) λau=>
 OP (af false 1 h au) λaD=>
 OP (ai .eql aD (.int .u32 (0))) λaB=>
 VE P K x0 x6 aB L1 h)
 (VE P K x0 x6 undef L1 h)):=az (by kernel_rfl)
theorem aFk (L1:LQ) (x0:Value) (h:ae):amj P K L1 [x0] h=
 (OP (bk x0) λx4=>
 OP (ai .gtr x4 (.int .i64 (0))) λx5=>
 amk P K x0 x5 L1 h):=az (by kernel_rfl)
theorem aFj:VF P K x0 h=
 (K x0 h):=az (by kernel_rfl)
def abm:Prop:=
 cO [x0] h λL1 xs hx=>
 amj P K L1 xs hx
theorem azG:aj P Ip (aT [.tmp 2] K) (bw [x0]) h=abm P K x0 h:=by kernel_rfl
theorem f118 {K:VK} {x0:Value} {h:ae} (H:abm prog K x0 h):ak prog 118 [x0] h K:=
 bN aDi (bJ rfl) ((azG prog K x0 h).mpr H)
end
noncomputable section
variable (a0 : Value) (h : ae)
def akp:=bE prog 119 [[],[]]
@[irreducible] def acm:=bM akp
theorem aDj:akp=some (9,acm,[.cell true 2 2]):=by kernel_rfl
def O0:Prop:=
 OH (bp 105 h a0) λa1 z1=>
 OH (aV 105 [(.bool false),(.slice none 0 0)] z1) λx2 z2=>
 OP (aJ 0 a1) λx3=>
 OP (af false 1 z2 x3) λx4=>
 OP (gq .not x4) λx5=>
 OP (aJ 1 a1) λx6=>
 OP (af false 1 z2 x6) λx7=>
 ak P 117 [x5,x7] z2 λx8 z3=>
 OH (aG 2 z3 x2 x8) λ_ z4=>
 OP (af true 2 z4 x2) λr0=>
 K r0 z4
theorem azH:aj P acm (aT [.cell true 2 2] K) (bw [a0]) h=O0 P K a0 h:=by kernel_rfl
theorem f119 {K:VK} {a0:Value} {h:ae} (H:O0 prog K a0 h):ak prog 119 [a0] h K:=
 bN aDj (bJ rfl) ((azH prog K a0 h).mpr H)
end
noncomputable section
variable (a0 b1 x5 i6 x7 x8 aS aK aU bX cV b9 : Value) (L1 L2 : LQ) (xs : List Value) (h : ae)
def aks:=bE prog 122 [[],[],[],[1,5,18,19],[20],[],[],[],[],[],[1,5,6,7,18,19,20,25,26],[8,27],[],[],[],[],[],[1,5,6,8,18,19,20],[1,5,18,19,20],[5],[]]
@[irreducible] def Iw:=bM aks
@[irreducible] def Ix:=Iw.r.r.l.r.l.l
@[irreducible] def acx:=Iw.r.r.r
@[irreducible] def avX:=Ix.r.r.l.l.r.r.l.r.l.l
@[irreducible] def acw:=Ix.r.r.l.l.r.r.r
@[irreducible] def acy:=Ix.r.r.r
@[irreducible] def av0:=acx.l
@[irreducible] def avY:=acw.l
@[irreducible] def avZ:=acy.l
theorem aDm:aks=some (68,Iw,[.tmp 4]):=by kernel_rfl
def N0 (_P:Program) (K:VK):ar:=aT [.tmp 4] K
def asl:ar:=aH (aj P acx (N0 P K)) (N0 P K)
def asm:ar:=bH 0 (asl P K)
def Hi:ar:=aH (λf' aX=>(([1,5,18,19]:List Nat).map f':List Value)=[b1,x5,aS,aK]/\L1 (([20]:List Nat).map f') aX) (asm P K)
def asn:ar:=aH (aj P acy (Hi P K b1 x5 aS aK L1)) (Hi P K b1 x5 aS aK L1)
def N1:ar:=bH 1 (asn P K b1 x5 aS aK L1)
def ash:ar:=aH (aj P acw (N1 P K b1 x5 aS aK L1)) (N1 P K b1 x5 aS aK L1)
def asi:ar:=bH 2 (ash P K b1 x5 aS aK L1)
def asj:ar:=aH (λf' aX=>(([1,5,6,7,18,19,20,25,26]:List Nat).map f':List Value)=[b1,x5,i6,x7,aS,aK,aU,bX,cV]/\L2 (([8,27]:List Nat).map f') aX) (asi P K b1 x5 aS aK L1)
def amz:Prop:=ax (aj P Ix (Hi P K b1 x5 aS aK L1)) ([1,5,18,19]++[20]) ([b1,x5,aS,aK]++xs) h
def amv:Prop:=ax (aj P avX (asj P K b1 x5 i6 x7 aS aK aU bX cV L1 L2)) ([1,5,6,7,18,19,20,25,26]++[8,27]) ([b1,x5,i6,x7,aS,aK,aU,bX,cV]++xs) h
def amw:Prop:=ax (aj P avY (N1 P K b1 x5 aS aK L1)) [1,5,6,8,18,19,20] [b1,x5,i6,x8,aS,aK,aU] h
def amx:Prop:=ax (aj P avZ (Hi P K b1 x5 aS aK L1)) [1,5,18,19,20] [b1,x5,aS,aK,aU] h
def amy:Prop:=ax (aj P av0 (N0 P K)) [5] [x5] h
theorem aFx (b1 x5 i6 x7 aS aK aU bX cV:Value) (L1 L2:LQ) (x8 b9:Value) (h:ae):amv P K b1 x5 i6 x7 aS aK aU bX cV L1 L2 [x8,b9] h=
 (OP (ai .lss b9 cV) λcG=>
 aN cG
 (OP (aZ 1 bX b9) λdm=>
 OP (af false 1 h dm) λcC=>
 OP (dG .u64 x7) λdK=>
 OP (dG .u64 cC) λdw=>
 OP (ai .mul dK dw) λdc=>
 OP (ai .add i6 b9) λeJ=>
 OP (aZ 1 x5 eJ) λdW=>
 OP (af false 1 h dW) λeO=>
 OP (dG .u64 eO) λcj=>
 OP (ai .add dc cj) λbu=>
 OP (ai .add bu x8) λcI=>
 OP (ai .add i6 b9) λbY=>
 OP (dG .u32 cI) λde=>
 OP (ai .shr cI (.int .u64 (32))) λcX=>
 OP (aZ 1 x5 bY) λhI=>
 OH (aG 1 h hI de) λ_ z1=>
 OP (ai .add b9 (.int .i64 (1))) λiT=>
 ([b1,x5,i6,x7,aS,aK,aU,bX,cV]:List Value)=[b1,x5,i6,x7,aS,aK,aU,bX,cV]/\L2 [cX,iT] z1)
 (amw P K b1 x5 i6 x8 aS aK aU L1 h)):=az (by kernel_rfl)
theorem aFy:amw P K b1 x5 i6 x8 aS aK aU L1 h=
 (OP (bk b1) λjw=>
 OP (ai .add i6 jw) λfI=>
 OP (dG .u32 x8) λhO=>
 OP (aZ 1 x5 fI) λkf=>
 OH (aG 1 h kf hO) λ_ z1=>
 amx P K b1 x5 aS aK aU L1 z1):=az (by kernel_rfl)
theorem aFz:amx P K b1 x5 aS aK aU L1 h=
 (OP (ai .add aU (.int .i64 (1))) λgP=>
 ([b1,x5,aS,aK]:List Value)=[b1,x5,aS,aK]/\L1 [gP] h):=az (by kernel_rfl)
theorem aFB (b1 x5 aS aK:Value) (L1:LQ) (aU:Value) (h:ae):amz P K b1 x5 aS aK L1 [aU] h=
 (OP (ai .lss aU aK) λba=>
 aN ba
 (OP (aZ 1 aS aU) λcB=>
 OP (af false 1 h cB) λbL=>
 OP (bk b1) λcV=>
 cO [(.int .u64 (0)),(.int .i64 (0))] h λL2 xs hx=>
 amv P K b1 x5 aU bL aS aK aU b1 cV L1 L2 xs hx)
 (amy P K x5 h)):=az (by kernel_rfl)
theorem aFA:amy P K x5 h=
 (ak P 118 [x5] h λgC z1=>
 K gC z1):=az (by kernel_rfl)
def O3:Prop:=
 OP (bk a0) λaB=>
 OP (bk b1) λaP=>
 OP (ai .add aB aP) λaL=>
 OH (lI 177 4 [(.int .u32 (0))] h aL aL) λbK z1=>
 OP (bk a0) λaK=>
 cO [(.int .i64 (0))] z1 λL1 xs hx=>
 amz P K b1 bK a0 aK L1 xs hx
theorem azK:aj P Iw (aT [.tmp 4] K) (bw [a0,b1]) h=O3 P K a0 b1 h:=by kernel_rfl
theorem f122 {K:VK} {a0 b1:Value} {h:ae} (H:O3 prog K a0 b1 h):ak prog 122 [a0,b1] h K:=
 bN aDm (bJ rfl) ((azK prog K a0 b1 h).mpr H)
end
noncomputable section
variable (a0 b1 i5 : Value) (L1 : LQ) (xs : List Value) (h : ae)
def akw:=bE prog 126 [[],[],[],[],[],[],[],[],[0,1],[5],[],[],[],[],[],[],[],[],[],[]]
@[irreducible] def IB:=bM akw
@[irreducible] def av9:=IB.r.r.l.r.l.l
@[irreducible] def awa:=IB.r.r.r
theorem aDq:akw=some (41,IB,[.tmp 4]):=by kernel_rfl
def Z8 (_P:Program) (K:VK):ar:=aT [.tmp 4] K
def asy:ar:=aH (aj P awa (Z8 P K)) (Z8 P K)
def asw:ar:=bH 0 (asy P K)
def asx:ar:=aH (λf' aX=>(([0,1]:List Nat).map f':List Value)=[a0,b1]/\L1 (([5]:List Nat).map f') aX) (asw P K)
def amI:Prop:=ax (aj P av9 (asx P K a0 b1 L1)) ([0,1]++[5]) ([a0,b1]++xs) h
theorem aFI (a0 b1:Value) (L1:LQ) (i5:Value) (h:ae):amI P K a0 b1 L1 [i5] h=
 (OP (ai .geq i5 (.int .i64 (0))) λaU=>
 aN aU
 (OP (aZ 1 a0 i5) λbX=>
 OP (af false 1 h bX) λcV=>
 (True)/\
 OP (aZ 1 b1 i5) λcM=>
 OP (af false 1 h cM) λdm=>
 (True)/\
 OP (ai .neq cV dm) λcC=>
 aN cC
 (OP (aZ 1 a0 i5) λcK=>
 OP (af false 1 h cK) λdw=>
 (True)/\
 OP (aZ 1 b1 i5) λdO=>
 OP (af false 1 h dO) λeY=>
 (True)/\
 OP (ai .lss dw eY) λeJ=>
 aN eJ
 (K (.int .i64 (-1)) h)
 (K (.int .i64 (1)) h))
 (OP (ai .sub i5 (.int .i64 (1))) λbO=>
 ([a0,b1]:List Value)=[a0,b1]/\L1 [bO] h))
 (K (.int .i64 (0)) h)):=az (by kernel_rfl)
def O7:Prop:=
 OP (bk a0) λx7=>
 OP (bk b1) λx9=>
 OP (ai .neq x7 x9) λay=>
 aN ay
 (OP (bk a0) λaD=>
 OP (bk b1) λaA=>
 OP (ai .lss aD aA) λaP=>
 aN aP
 (K (.int .i64 (-1)) h)
 (K (.int .i64 (1)) h))
 (OP (bk a0) λbK=>
 OP (ai .sub bK (.int .i64 (1))) λaS=>
 cO [aS] h λL1 xs hx=>
 amI P K a0 b1 L1 xs hx)
theorem azO:aj P IB (aT [.tmp 4] K) (bw [a0,b1]) h=O7 P K a0 b1 h:=by kernel_rfl
theorem f126 {K:VK} {a0 b1:Value} {h:ae} (H:O7 prog K a0 b1 h):ak prog 126 [a0,b1] h K:=
 bN aDq (bJ rfl) ((azO prog K a0 b1 h).mpr H)
end
noncomputable section
variable (a0 b1 : Value) (h : ae)
def akx:=bE prog 127 [[],[]]
@[irreducible] def acK:=bM akx
theorem aDr:akx=some (9,acK,[.cell true 2 4]):=by kernel_rfl
def O8:Prop:=
 OH (bp 105 h a0) λa2 z1=>
 OH (bp 105 z1 b1) λb3 z2=>
 OH (aV 105 [(.bool false),(.slice none 0 0)] z2) λx4 z3=>
 OP (af true 2 z3 a2) λx5=>
 (True)/\
 OP (af true 2 z3 b3) λx6=>
 (True)/\
 ak P 119 [x6] z3 λx7 z4=>
 (af true 2 z4 a2=some x5/\True)/\
 ak P 113 [x5,x7] z4 λx8 z5=>
 (True)/\
 OH (aG 2 z5 x4 x8) λ_ z6=>
 (True)/\
 OP (af true 2 z6 x4) λr0=>
 K r0 z6
theorem azP:aj P acK (aT [.cell true 2 4] K) (bw [a0,b1]) h=O8 P K a0 b1 h:=by kernel_rfl
theorem f127 {K:VK} {a0 b1:Value} {h:ae} (H:O8 prog K a0 b1 h):ak prog 127 [a0,b1] h K:=
 bN aDr (bJ rfl) ((azP prog K a0 b1 h).mpr H)
end
noncomputable section
variable (a0 b1 x5 x6 i7 y8 ba bO : Value) (L1 : LQ) (xs : List Value) (h : ae)
def aky:=bE prog 128 [[],[],[0,1],[],[],[],[0,1,5,21],[6,22],[],[],[],[],[],[0,1,5,6,7,8,21,22],[0,1,5,6,21,22],[0,5,6],[],[]]
@[irreducible] def QP:=bM aky
@[irreducible] def QR:=QP.r.r.l
@[irreducible] def QQ:=QR.r.r.l.r.l.l
@[irreducible] def acM:=QR.r.r.r
@[irreducible] def awb:=QQ.r.r.l.l.r.r.r.l
@[irreducible] def acL:=QQ.r.r.r
@[irreducible] def awd:=acM.l
@[irreducible] def awc:=acL.l
theorem aDs:aky=some (54,QP,[.tmp 4]):=by kernel_rfl
def Hj (_P:Program) (K:VK):ar:=aT [.tmp 4] K
def asC:ar:=aH (aj P acM (Hj P K)) (Hj P K)
def asD:ar:=bH 0 (asC P K)
def Hl:ar:=aH (λf' aX=>(([0,1,5,21]:List Nat).map f':List Value)=[a0,b1,x5,ba]/\L1 (([6,22]:List Nat).map f') aX) (asD P K)
def asA:ar:=aH (aj P acL (Hl P K a0 b1 x5 ba L1)) (Hl P K a0 b1 x5 ba L1)
def asB:ar:=bH 1 (asA P K a0 b1 x5 ba L1)
def LH:Prop:=ax (aj P QR (Hj P K)) [0,1] [a0,b1] h
def amJ:Prop:=ax (aj P QQ (Hl P K a0 b1 x5 ba L1)) ([0,1,5,21]++[6,22]) ([a0,b1,x5,ba]++xs) h
def LG:Prop:=ax (aj P awb (asB P K a0 b1 x5 ba L1)) [0,1,5,6,7,8,21,22] [a0,b1,x5,x6,i7,y8,ba,bO] h
def amK:Prop:=ax (aj P awc (Hl P K a0 b1 x5 ba L1)) [0,1,5,6,21,22] [a0,b1,x5,x6,ba,bO] h
def amL:Prop:=ax (aj P awd (Hj P K)) [0,5,6] [a0,x5,x6] h
theorem aFK:LG P K a0 b1 x5 x6 i7 y8 ba bO L1 h=
 (OP (aZ 1 a0 i7) λdO=>
 OP (af false 1 h dO) λeY=>
 ak P 133 [eY,y8,x6] h λeO z1=>
 OP (cD 0 eO) λcj=>
 OP (cD 1 eO) λbu=>
 OP (aZ 1 x5 i7) λcS=>
 OH (aG 1 z1 cS cj) λ_ z2=>
 amK P K a0 b1 x5 bu ba bO L1 z2):=az (by kernel_rfl)
theorem aFL:amK P K a0 b1 x5 x6 ba bO L1 h=
 (OP (ai .add bO (.int .i64 (1))) λcI=>
 ([a0,b1,x5,ba]:List Value)=[a0,b1,x5,ba]/\L1 [x6,cI] h):=az (by kernel_rfl)
theorem aFJ (a0 b1 x5 ba:Value) (L1:LQ) (x6 bO:Value) (h:ae):amJ P K a0 b1 x5 ba L1 [x6,bO] h=
 (OP (ai .lss bO ba) λcB=>
 aN cB
 (OP (bk b1) λb9=>
 OP (ai .lss bO b9) λcG=>
 aN cG
 (OP (aZ 1 b1 bO) λcC=>
 OP (af false 1 h cC) λbV=>
 LG P K a0 b1 x5 x6 bO bV ba bO L1 h)
 (LG P K a0 b1 x5 x6 bO (.int .u32 (0)) ba bO L1 h))
 (amL P K a0 x5 x6 h)):=az (by kernel_rfl)
theorem aFM:amL P K a0 x5 x6 h=
 (OP (bk a0) λfN=>
 OP (aZ 1 x5 fN) λcg=>
 OH (aG 1 h cg x6) λ_ z1=>
 ak P 118 [x5] z1 λiS z2=>
 K iS z2):=az (by kernel_rfl)
theorem aFN:LH P K a0 b1 h=
 (OP (bk a0) λbK=>
 OP (ai .add bK (.int .i64 (1))) λaS=>
 OH (lI 177 4 [(.int .u32 (0))] h aS aS) λaK z1=>
 OP (bk a0) λba=>
 cO [(.int .u32 (0)),(.int .i64 (0))] z1 λL1 xs hx=>
 amJ P K a0 b1 aK ba L1 xs hx):=az (by kernel_rfl)
def O9:Prop:=
 OP (bk a0) λay=>
 OP (bk b1) λaD=>
 OP (ai .lss ay aD) λaB=>
 aN aB
 (LH P K b1 a0 h)
 (LH P K a0 b1 h)
theorem azQ:aj P QP (aT [.tmp 4] K) (bw [a0,b1]) h=O9 P K a0 b1 h:=by kernel_rfl
theorem f128 {K:VK} {a0 b1:Value} {h:ae} (H:O9 prog K a0 b1 h):ak prog 128 [a0,b1] h K:=
 bN aDs (bJ rfl) ((azQ prog K a0 b1 h).mpr H)
end
noncomputable section
variable (a0 b1 x5 x6 i7 y8 aB aA : Value) (L1 : LQ) (xs : List Value) (h : ae)
def akz:=bE prog 129 [[],[],[],[],[0,1,5,13],[6,14],[],[],[],[],[],[0,1,5,6,7,8,13,14],[0,1,5,6,13,14],[5],[]]
@[irreducible] def IC:=bM akz
@[irreducible] def QS:=IC.r.r.r.l.r.l.l
@[irreducible] def acO:=IC.r.r.r.r
@[irreducible] def awe:=QS.r.r.l.l.r.r.r.l
@[irreducible] def acN:=QS.r.r.r
@[irreducible] def awg:=acO.l
@[irreducible] def awf:=acN.l
theorem aDt:akz=some (41,IC,[.tmp 4]):=by kernel_rfl
def N4 (_P:Program) (K:VK):ar:=aT [.tmp 4] K
def asG:ar:=aH (aj P acO (N4 P K)) (N4 P K)
def asH:ar:=bH 0 (asG P K)
def Hm:ar:=aH (λf' aX=>(([0,1,5,13]:List Nat).map f':List Value)=[a0,b1,x5,aB]/\L1 (([6,14]:List Nat).map f') aX) (asH P K)
def asE:ar:=aH (aj P acN (Hm P K a0 b1 x5 aB L1)) (Hm P K a0 b1 x5 aB L1)
def asF:ar:=bH 1 (asE P K a0 b1 x5 aB L1)
def amO:Prop:=ax (aj P QS (Hm P K a0 b1 x5 aB L1)) ([0,1,5,13]++[6,14]) ([a0,b1,x5,aB]++xs) h
def LI:Prop:=ax (aj P awe (asF P K a0 b1 x5 aB L1)) [0,1,5,6,7,8,13,14] [a0,b1,x5,x6,i7,y8,aB,aA] h
def amM:Prop:=ax (aj P awf (Hm P K a0 b1 x5 aB L1)) [0,1,5,6,13,14] [a0,b1,x5,x6,aB,aA] h
def amN:Prop:=ax (aj P awg (N4 P K)) [5] [x5] h
theorem aFO:LI P K a0 b1 x5 x6 i7 y8 aB aA L1 h=
 (OP (aZ 1 a0 i7) λdm=>
 OP (af false 1 h dm) λcC=>
 ak P 134 [cC,y8,x6] h λcK z1=>
 OP (cD 0 cK) λdw=>
 OP (cD 1 cK) λdc=>
 OP (aZ 1 x5 i7) λer=>
 OH (aG 1 z1 er dw) λ_ z2=>
 amM P K a0 b1 x5 dc aB aA L1 z2):=az (by kernel_rfl)
theorem aFP:amM P K a0 b1 x5 x6 aB aA L1 h=
 (OP (ai .add aA (.int .i64 (1))) λdO=>
 ([a0,b1,x5,aB]:List Value)=[a0,b1,x5,aB]/\L1 [x6,dO] h):=az (by kernel_rfl)
theorem aFR (a0 b1 x5 aB:Value) (L1:LQ) (x6 aA:Value) (h:ae):amO P K a0 b1 x5 aB L1 [x6,aA] h=
 (OP (ai .lss aA aB) λaP=>
 aN aP
 (OP (bk b1) λaK=>
 OP (ai .lss aA aK) λaU=>
 aN aU
 (OP (aZ 1 b1 aA) λcB=>
 OP (af false 1 h cB) λbL=>
 LI P K a0 b1 x5 x6 aA bL aB aA L1 h)
 (LI P K a0 b1 x5 x6 aA (.int .u32 (0)) aB aA L1 h))
 (amN P K x5 h)):=az (by kernel_rfl)
theorem aFQ:amN P K x5 h=
 (ak P 118 [x5] h λeJ z1=>
 K eJ z1):=az (by kernel_rfl)
def Pa:Prop:=
 OP (bk a0) λay=>
 OH (lI 177 4 [(.int .u32 (0))] h ay ay) λau z1=>
 OP (bk a0) λaB=>
 cO [(.int .u32 (0)),(.int .i64 (0))] z1 λL1 xs hx=>
 amO P K a0 b1 au aB L1 xs hx
theorem azR:aj P IC (aT [.tmp 4] K) (bw [a0,b1]) h=Pa P K a0 b1 h:=by kernel_rfl
theorem f129 {K:VK} {a0 b1:Value} {h:ae} (H:Pa prog K a0 b1 h):ak prog 129 [a0,b1] h K:=
 bN aDt (bJ rfl) ((azR prog K a0 b1 h).mpr H)
end
noncomputable section
variable (x0 y1 x2 : Value) (h : ae)
def akE:=bE prog 133 [[],[],[],[]]
@[irreducible] def acS:=bM akE
theorem aDx:akE=some (22,acS,[.tmp 6,.tmp 7]):=by kernel_rfl
def Pd (_:Program) (K:VK) (x0 y1 x2:Value) (h:ae):Prop:=
 OP (dG .u64 x0) λay=>
 OP (dG .u64 y1) λaD=>
 OP (ai .add ay aD) λaB=>
 OP (dG .u64 x2) λaP=>
 OP (ai .add aB aP) λaL=>
 OP (dG .u32 aL) λaS=>
 OP (ai .shr aL (.int .u64 (32))) λaU=>
 OP (dG .u32 aU) λba=>
 K (.tuple #[aS,ba]) h
theorem azV:aj P acS (aT [.tmp 6,.tmp 7] K) (bw [x0,y1,x2]) h=Pd P K x0 y1 x2 h:=by kernel_rfl
theorem f133 {K:VK} {x0 y1 x2:Value} {h:ae} (H:Pd prog K x0 y1 x2 h):ak prog 133 [x0,y1,x2] h K:=
 bN aDx (bJ rfl) ((azV prog K x0 y1 x2 h).mpr H)
end
noncomputable section
variable (x0 y1 x2 : Value) (h : ae)
def akF:=bE prog 134 [[],[],[]]
@[irreducible] def acT:=bM akF
theorem aDy:akF=some (25,acT,[.tmp 6,.tmp 7]):=by kernel_rfl
def Pe (_:Program) (K:VK) (x0 y1 x2:Value) (h:ae):Prop:=
 OP (ai .sub x0 y1) λay=>
 OP (ai .sub ay x2) λaD=>
 OP (gq .xor x0) λaA=>
 OP (ai .and aA y1) λaL=>
 OP (ai .xor x0 y1) λaK=>
 OP (gq .xor aK) λaU=>
 OP (ai .and aU aD) λbO=>
 OP (ai .or aL bO) λcB=>
 OP (ai .shr cB (.int .u64 (31))) λbL=>
 K (.tuple #[aD,bL]) h
theorem azW:aj P acT (aT [.tmp 6,.tmp 7] K) (bw [x0,y1,x2]) h=Pe P K x0 y1 x2 h:=by kernel_rfl
theorem f134 {K:VK} {x0 y1 x2:Value} {h:ae} (H:Pe prog K x0 y1 x2 h):ak prog 134 [x0,y1,x2] h K:=
 bN aDy (bJ rfl) ((azW prog K x0 y1 x2 h).mpr H)
end
end
section
variable (P : Program) (K : VK)
noncomputable section
variable (a0 a1 s4 : Value) (h : ae)
def ak3:=bE prog 45 [[],[],[],[],[],[],[1,4],[],[],[],[],[],[],[],[]]
@[irreducible] def BZ:=bM ak3
@[irreducible] def axa:=BZ.r.r.r.r.l
theorem k45:ak3=some (32,BZ,[.tmp 2,.tmp 3]):=by kernel_rfl
def atw (_P:Program) (K:VK):ar:=aT [.tmp 2,.tmp 3] K
def LY:Prop:=ax (aj P axa (atw P K)) [1,4] [a1,s4] h
theorem aGR:LY P K a1 s4 h=
 (OP (af true 4 h a1) λaS=>
 ak P 90 [aS] h λaK z1=>
 aN aK
 (K (.tuple #[s4,(.int .i64 (0))]) z1)
 (OP (aJ 2 a1) λba=>
 OP (aJ 1 ba) λbO=>
 OP (af false 1 z1 bO) λcB=>
 ak P 89 [cB] z1 λbL z2=>
 OP (gK bL) λcV=>
 OP (ai .gtr cV (.int .i64 (4000))) λb9=>
 aN b9
 (K (.tuple #[(.string ⟨#[]⟩),(.int .i64 (4))]) z2)
 (OP (ai .add s4 (.string ⟨#[47]⟩)) λcM=>
 OP (ai .add cM bL) λcC=>
 K (.tuple #[cC,(.int .i64 (0))]) z2))):=az (by kernel_rfl)
def PB:Prop:=
 OH (bp 107 h a0) λa1 z1=>
 OP (aJ 0 a1) λx6=>
 OP (aJ 1 x6) λx7=>
 OP (af false 1 z1 x7) λx8=>
 ak P 89 [x8] z1 λx9 z2=>
 OP (gK x9) λau=>
 OP (ai .gtr au (.int .i64 (4000))) λaD=>
 aN aD
 (K (.tuple #[(.string ⟨#[]⟩),(.int .i64 (4))]) z2)
 (OP (aJ 0 a1) λaB=>
 OP (aJ 0 aB) λaA=>
 OP (af false 1 z2 aA) λaP=>
 aN aP
 (OP (ai .add (.string ⟨#[45]⟩) x9) λbK=>
 LY P K a1 bK z2)
 (LY P K a1 x9 z2))
theorem e45:aj P BZ (aT [.tmp 2,.tmp 3] K) (bw [a0]) h=PB P K a0 h:=by kernel_rfl
theorem f45 {K:VK} {a0:Value} {h:ae} (H:PB prog K a0 h):ak prog 45 [a0] h K:=
 bN k45 (bJ rfl) ((e45 prog K a0 h).mpr H)
end
noncomputable section
variable (n0 : Value) (h : ae)
def alv:=bE prog 75 [[],[]]
@[irreducible] def c75:=bM alv
theorem k75:alv=some (7,c75,[.cell true 4 2]):=by kernel_rfl
def P3:Prop:=
 OH (aV 107 [(.bool false),(.slice none 0 0),(.bool false),(.slice none 0 0)] h) λx2 z1=>
 ak P 105 [n0] z1 λx4 z2=>
 ak P 105 [(.int .i64 (1))] z2 λx5 z3=>
 OP (dC [(.bool false),(.slice none 0 0),(.bool false),(.slice none 0 0)] [(0,2,x4),(2,2,x5)]) λx6=>
 OH (aG 4 z3 x2 x6) λ_ z4=>
 OP (af true 4 z4 x2) λr0=>
 K r0 z4
theorem e75:aj P c75 (aT [.cell true 4 2] K) (bw [n0]) h=P3 P K n0 h:=by kernel_rfl
theorem f75 {K:VK} {n0:Value} {h:ae} (H:P3 prog K n0 h):ak prog 75 [n0] h K:=
 bN k75 (bJ rfl) ((e75 prog K n0 h).mpr H)
end
noncomputable section
variable (a0 b1 : Value) (h : ae)
def alx:=bE prog 77 [[],[]]
@[irreducible] def c77:=bM alx
theorem k77:alx=some (16,c77,[.cell true 4 4]):=by kernel_rfl
def P4:Prop:=
 OH (bp 107 h a0) λa2 z1=>
 OH (bp 107 z1 b1) λb3 z2=>
 OH (aV 107 [(.bool false),(.slice none 0 0),(.bool false),(.slice none 0 0)] z2) λx4 z3=>
 OP (aJ 0 a2) λx5=>
 OP (af true 2 z3 x5) λx6=>
 (True)/\
 OP (aJ 2 b3) λx7=>
 OP (af true 2 z3 x7) λx8=>
 (True)/\
 ak P 107 [x6,x8] z3 λx9 z4=>
 (True)/\
 OP (aJ 2 a2) λay=>
 OP (af true 2 z4 ay) λau=>
 (af true 2 z3 ay=some au/\True)/\
 OP (aJ 0 b3) λaD=>
 OP (af true 2 z4 aD) λaB=>
 (af true 2 z3 aD=some aB/\True)/\
 ak P 107 [au,aB] z4 λaA z5=>
 (True)/\
 ak P 106 [x9,aA] z5 λaP z6=>
 (True)/\
 OH (aG 4 z6 x4 aP) λ_ z7=>
 (True)/\
 OP (af true 4 z7 x4) λr0=>
 K r0 z7
theorem e77:aj P c77 (aT [.cell true 4 4] K) (bw [a0,b1]) h=P4 P K a0 b1 h:=by kernel_rfl
theorem f77 {K:VK} {a0 b1:Value} {h:ae} (H:P4 prog K a0 b1 h):ak prog 77 [a0,b1] h K:=
 bN k77 (bJ rfl) ((e77 prog K a0 b1 h).mpr H)
end
noncomputable section
variable (x0 b3 q4 r5 i6 aU bL cV b9 : Value) (L1 L2 : LQ) (xs : List Value) (h : ae)
def alH:=bE prog 89 [[],[],[],[],[],[],[0,3],[],[],[],[],[4],[3,5,6],[3,4,5,6,20],[3,4,5,6,20,24],[3,4,5,6,20,24,26],[3,4,5,6,20,27],[],[],[],[],[3,4],[3],[],[]]
@[irreducible] def Jk:=bM alH
@[irreducible] def Rj:=Jk.r.r.r.l.l.l
@[irreducible] def afp:=Jk.r.r.r.r
@[irreducible] def Jl:=Rj.r.l.r.l.r.l.l
@[irreducible] def afl:=Rj.r.l.r.r
@[irreducible] def ayy:=afp.l
@[irreducible] def afm:=Jl.l.l.r.l
@[irreducible] def ayv:=Jl.l.r
@[irreducible] def ayu:=Jl.r
@[irreducible] def ayx:=afl.l
@[irreducible] def afn:=afm.r.l
@[irreducible] def afo:=afn.r.l
@[irreducible] def ayw:=afo.r.l
theorem k89:alH=some (45,Jk,[.tmp 2]):=by kernel_rfl
def Ov (_P:Program) (K:VK):ar:=aT [.tmp 2] K
def auG:ar:=aH (aj P afp (Ov P K)) (Ov P K)
def auH:ar:=bH 0 (auG P K)
def aa9:ar:=aH (λf' aX=>(([]:List Nat).map f':List Value)=[]/\L1 (([0,3]:List Nat).map f') aX) (auH P K)
def Ow:ar:=bH 1 (aa9 P K L1)
def auE:ar:=aH (aj P afl (Ow P K L1)) (Ow P K L1)
def auF:ar:=bH 2 (auE P K L1)
def Ox:ar:=aH (λf' aX=>(([4]:List Nat).map f':List Value)=[q4]/\L2 (([3,5,6]:List Nat).map f') aX) (auF P K L1)
def aa8:ar:=aH (aj P ayu (Ox P K q4 L1 L2)) (Ox P K q4 L1 L2)
def HG:ar:=aH (aj P ayv (aa8 P K q4 L1 L2)) (aa8 P K q4 L1 L2)
def aox:Prop:=ax (aj P Rj (aa9 P K L1)) ([]++[0,3]) ([]++xs) h
def aou:Prop:=ax (aj P Jl (Ox P K q4 L1 L2)) ([4]++[3,5,6]) ([q4]++xs) h
def aov:Prop:=ax (aj P afm (HG P K q4 L1 L2)) [3,4,5,6,20] [b3,q4,r5,i6,aU] h
def WL:Prop:=ax (aj P afn (HG P K q4 L1 L2)) [3,4,5,6,20,24] [b3,q4,r5,i6,aU,bL] h
def WM:Prop:=ax (aj P afo (HG P K q4 L1 L2)) [3,4,5,6,20,24,26] [b3,q4,r5,i6,aU,bL,cV] h
def WN:Prop:=ax (aj P ayw (HG P K q4 L1 L2)) [3,4,5,6,20,27] [b3,q4,r5,i6,aU,b9] h
def L9:Prop:=ax (aj P ayx (Ow P K L1)) [3,4] [b3,q4] h
def aow:Prop:=ax (aj P ayy (Ov P K)) [3] [b3] h
theorem Mo:WN P K b3 q4 r5 i6 aU b9 L1 L2 h=
 (OP (bF aU b9 (.bool false)) λcG=>
 aN cG
 (OP (ai .rem r5 (.int .u32 (10))) λdK=>
 OP (ai .add (.int .u32 (48)) dK) λcK=>
 OP (dG .u8 cK) λdw=>
 OH (dN 5 1 [(.int .u8 (0))] h [(0,1,dw)]) λdc z1=>
 OH (eG 5 1 1 z1 b3 dc) λer z2=>
 OP (ai .quo r5 (.int .u32 (10))) λeY=>
 OP (ai .add i6 (.int .i64 (1))) λdm=>
 ([q4]:List Value)=[q4]/\L2 [er,eY,dm] z2)
 (L9 P K b3 q4 L1 h)):=az (by kernel_rfl)
theorem Mn:WM P K b3 q4 r5 i6 aU bL cV L1 L2 h=
 (ck aU true
 (OP (bF bL (.bool true) cV) λb9=>
 WN P K b3 q4 r5 i6 aU b9 L1 L2 h)
 (WN P K b3 q4 r5 i6 aU undef L1 L2 h)):=az (by kernel_rfl)
theorem Xj:WL P K b3 q4 r5 i6 aU bL L1 L2 h=
 (ck bL false
 (OP (ai .gtr r5 (.int .u32 (0))) λcV=>
 WM P K b3 q4 r5 i6 aU bL cV L1 L2 h)
 (WM P K b3 q4 r5 i6 aU bL undef L1 L2 h)):=az (by kernel_rfl)
theorem apZ:aov P K b3 q4 r5 i6 aU L1 L2 h=
 (ck aU true
 (OP (bk q4) λbO=>
 OP (ai .gtr bO (.int .i64 (0))) λcB=>
 WL P K b3 q4 r5 i6 aU cB L1 L2 h)
 (WL P K b3 q4 r5 i6 aU undef L1 L2 h)):=az (by kernel_rfl)
theorem aIo (q4:Value) (L1 L2:LQ) (b3 r5 i6:Value) (h:ae):aou P K q4 L1 L2 [b3,r5,i6] h=
 (OP (ai .lss i6 (.int .i64 (9))) λaK=>
 aov P K b3 q4 r5 i6 aK L1 L2 h):=az (by kernel_rfl)
theorem aIp:L9 P K b3 q4 L1 h=
 (([]:List Value)=[]/\L1 [q4,b3] h):=az (by kernel_rfl)
theorem aIr (L1:LQ) (x0 b3:Value) (h:ae):aox P K L1 [x0,b3] h=
 (OP (bk x0) λau=>
 OP (ai .gtr au (.int .i64 (0))) λaD=>
 aN aD
 (ak P 114 [x0,(.int .u32 (1000000000))] h λaP z1=>
 OP (cD 0 aP) λaL=>
 OP (cD 1 aP) λbK=>
 cO [b3,bK,(.int .i64 (0))] z1 λL2 xs hx=>
 aou P K aL L1 L2 xs hx)
 (aow P K b3 h)):=az (by kernel_rfl)
theorem aIq:aow P K b3 h=
 (ak P 115 [b3] h λ_ z1=>
 OP (oQ z1 b3) λbu=>
 K bu z1):=az (by kernel_rfl)
def Qe:Prop:=
 OP (bk x0) λx8=>
 OP (ai .eql x8 (.int .i64 (0))) λx9=>
 aN x9
 (K (.string ⟨#[48]⟩) h)
 (cO [x0,(.slice none 0 0)] h λL1 xs hx=>
 aox P K L1 xs hx)
theorem e89:aj P Jk (aT [.tmp 2] K) (bw [x0]) h=Qe P K x0 h:=by kernel_rfl
theorem f89 {K:VK} {x0:Value} {h:ae} (H:Qe prog K x0 h):ak prog 89 [x0] h K:=
 bN k89 (bJ rfl) ((e89 prog K x0 h).mpr H)
end
noncomputable section
variable (a0 a1 x8 aA : Value) (h : ae)
def alI:=bE prog 90 [[],[1,8],[8,14],[]]
@[irreducible] def Jm:=bM alI
@[irreducible] def afq:=Jm.r.l.r.l
@[irreducible] def ayz:=Jm.r.r
@[irreducible] def ayA:=afq.r.l
theorem k90:alI=some (16,Jm,[.tmp 2]):=by kernel_rfl
def aba (_P:Program) (K:VK):ar:=aT [.tmp 2] K
def abb:ar:=aH (aj P ayz (aba P K)) (aba P K)
def aoy:Prop:=ax (aj P afq (abb P K)) [1,8] [a1,x8] h
def WO:Prop:=ax (aj P ayA (abb P K)) [8,14] [x8,aA] h
theorem Xl:WO P K x8 aA h=
 (OP (bF x8 aA (.bool false)) λaP=>
 K aP h):=az (by kernel_rfl)
theorem Xk:aoy P K a1 x8 h=
 (ck x8 true
 (OP (aJ 2 a1) λx9=>
 OP (aJ 1 x9) λay=>
 OP (af false 1 h ay) λau=>
 OP (aZ 1 au (.int .i64 (0))) λaD=>
 OP (af false 1 h aD) λaB=>
 OP (ai .eql aB (.int .u32 (1))) λaA=>
 WO P K x8 aA h)
 (WO P K x8 undef h)):=az (by kernel_rfl)
def HN:Prop:=
 OH (bp 107 h a0) λa1 z1=>
 OP (aJ 2 a1) λx3=>
 OP (aJ 1 x3) λx4=>
 OP (af false 1 z1 x4) λx5=>
 OP (bk x5) λx6=>
 OP (ai .eql x6 (.int .i64 (1))) λx7=>
 aoy P K a1 x7 z1
theorem e90:aj P Jm (aT [.tmp 2] K) (bw [a0]) h=HN P K a0 h:=by kernel_rfl
theorem f90 {K:VK} {a0:Value} {h:ae} (H:HN prog K a0 h):ak prog 90 [a0] h K:=
 bN k90 (bJ rfl) ((e90 prog K a0 h).mpr H)
end
noncomputable section
variable (x0 x1 x2 x3 x4 : Value) (h : ae)
def akb:=bE prog 106 [[],[],[2,3,4],[],[],[],[],[],[],[]]
@[irreducible] def QK:=bM akb
@[irreducible] def avu:=QK.r.r.l
theorem aC6:akb=some (41,QK,[.cell true 4 4]):=by kernel_rfl
def arW (_P:Program) (K:VK):ar:=aT [.cell true 4 4] K
def Vy:Prop:=ax (aj P avu (arW P K)) [2,3,4] [x2,x3,x4] h
theorem aFa:Vy P K x2 x3 x4 h=
 (OP (af true 2 h x2) λaL=>
 OP (af true 2 h x3) λbK=>
 ak P 120 [aL,bK] h λaS z1=>
 OH (aV 105 [(.bool false),(.slice none 0 0)] z1) λg5 z2=>
 OH (aG 2 z2 g5 aS) λ_ z3=>
 OP (af true 2 z3 g5) λaK=>
 (True)/\
 ak P 105 [(.int .i64 (1))] z3 λaU z4=>
 (af true 2 z4 g5=some aK/\True)/\
 ak P 111 [aK,aU] z4 λba z5=>
 (True)/\
 OP (ai .eql ba (.int .i64 (0))) λbO=>
 aN bO
 (OP (af true 2 z5 x2) λcB=>
 OP (af true 2 z5 x3) λbL=>
 OP (dC [(.bool false),(.slice none 0 0),(.bool false),(.slice none 0 0)] [(0,2,cB),(2,2,bL)]) λbX=>
 OH (aG 4 z5 x4 bX) λ_ z6=>
 OP (af true 4 z6 x4) λr0=>
 K r0 z6)
 (OP (af true 2 z5 x2) λb9=>
 OP (af true 2 z5 g5) λcG=>
 ak P 121 [b9,cG] z5 λcM z6=>
 OP (cD 0 cM) λdm=>
 OP (cD 1 cM) λcC=>
 OH (aV 105 [(.bool false),(.slice none 0 0)] z6) λn6 z7=>
 OH (aV 105 [(.bool false),(.slice none 0 0)] z7) λx7 z8=>
 OH (aG 2 z8 n6 dm) λ_ z9=>
 OH (aG 2 z9 x7 cC) λ_ hX=>
 OP (af true 2 hX x3) λdK=>
 OP (af true 2 hX g5) λcK=>
 ak P 121 [dK,cK] hX λdw jx=>
 OP (cD 0 dw) λdc=>
 OP (cD 1 dw) λer=>
 OH (aV 105 [(.bool false),(.slice none 0 0)] jx) λd8 kr=>
 OH (aV 105 [(.bool false),(.slice none 0 0)] kr) λx9 kH=>
 OH (aG 2 kH d8 dc) λ_ om=>
 OH (aG 2 om x9 er) λ_ ky=>
 OP (af true 2 ky n6) λdO=>
 OP (af true 2 ky d8) λeY=>
 OP (dC [(.bool false),(.slice none 0 0),(.bool false),(.slice none 0 0)] [(0,2,dO),(2,2,eY)]) λeJ=>
 OH (aG 4 ky x4 eJ) λ_ rD=>
 OP (af true 4 rD x4) λr0=>
 K r0 rD)):=az (by kernel_rfl)
def OM:Prop:=
 OH (bp 105 h x0) λx2 z1=>
 OH (bp 105 z1 x1) λx3 z2=>
 OH (aV 107 [(.bool false),(.slice none 0 0),(.bool false),(.slice none 0 0)] z2) λx4 z3=>
 OP (aJ 0 x3) λay=>
 OP (af false 1 z3 ay) λau=>
 aN au
 (OP (af true 2 z3 x2) λaD=>
 (True)/\
 ak P 119 [aD] z3 λaB z4=>
 (True)/\
 OP (af true 2 z4 x3) λaA=>
 (af true 2 z3 x3=some aA/\True)/\
 ak P 119 [aA] z4 λaP z5=>
 (True)/\
 OH (aG 2 z5 x2 aB) λ_ z6=>
 (True)/\
 OH (aG 2 z6 x3 aP) λ_ z7=>
 (True)/\
 Vy P K x2 x3 x4 z7)
 (Vy P K x2 x3 x4 z3)
theorem azu:aj P QK (aT [.cell true 4 4] K) (bw [x0,x1]) h=OM P K x0 x1 h:=by kernel_rfl
theorem f106 {K:VK} {x0 x1:Value} {h:ae} (H:OM prog K x0 x1 h):ak prog 106 [x0,x1] h K:=
 bN aC6 (bJ rfl) ((azu prog K x0 x1 h).mpr H)
end
noncomputable section
variable (a0 b1 x4 x5 y6 : Value) (L1 : LQ) (xs : List Value) (h : ae)
def akq:=bE prog 120 [[],[],[4],[5,6],[],[],[],[4,5],[]]
@[irreducible] def Iv:=bM akq
@[irreducible] def avT:=Iv.r.r.l.l.l
@[irreducible] def acs:=Iv.r.r.r
@[irreducible] def avS:=acs.l
theorem aDk:akq=some (26,Iv,[.cell true 2 4]):=by kernel_rfl
def NY (_P:Program) (K:VK):ar:=aT [.cell true 2 4] K
def asd:ar:=aH (aj P acs (NY P K)) (NY P K)
def ase:ar:=bH 0 (asd P K)
def asf:ar:=aH (λf' aX=>(([4]:List Nat).map f':List Value)=[x4]/\L1 (([5,6]:List Nat).map f') aX) (ase P K)
def amt:Prop:=ax (aj P avT (asf P K x4 L1)) ([4]++[5,6]) ([x4]++xs) h
def ams:Prop:=ax (aj P avS (NY P K)) [4,5] [x4,x5] h
theorem aFt (x4:Value) (L1:LQ) (x5 y6:Value) (h:ae):amt P K x4 L1 [x5,y6] h=
 (OP (bk y6) λaA=>
 OP (ai .gtr aA (.int .i64 (0))) λaP=>
 aN aP
 (ak P 130 [x5,y6] h λaK z1=>
 OP (cD 0 aK) λ_=>
 OP (cD 1 aK) λba=>
 ([x4]:List Value)=[x4]/\L1 [y6,ba] z1)
 (ams P K x4 x5 h)):=az (by kernel_rfl)
theorem aFs:ams P K x4 x5 h=
 (ak P 117 [(.bool false),x5] h λbX z1=>
 OH (aG 2 z1 x4 bX) λ_ z2=>
 OP (af true 2 z2 x4) λr0=>
 K r0 z2):=az (by kernel_rfl)
def O1:Prop:=
 OH (bp 105 h a0) λa2 z1=>
 OH (bp 105 z1 b1) λb3 z2=>
 OH (aV 105 [(.bool false),(.slice none 0 0)] z2) λx4 z3=>
 OP (aJ 1 a2) λx9=>
 OP (af false 1 z3 x9) λay=>
 (True)/\
 OP (aJ 1 b3) λau=>
 OP (af false 1 z3 au) λaD=>
 (True)/\
 cO [ay,aD] z3 λL1 xs hx=>
 amt P K x4 L1 xs hx
theorem azI:aj P Iv (aT [.cell true 2 4] K) (bw [a0,b1]) h=O1 P K a0 b1 h:=by kernel_rfl
theorem f120 {K:VK} {a0 b1:Value} {h:ae} (H:O1 prog K a0 b1 h):ak prog 120 [a0,b1] h K:=
 bN aDk (bJ rfl) ((azI prog K a0 b1 h).mpr H)
end
noncomputable section
variable (a0 b1 a2 b3 x4 x5 x8 y9 bV er : Value) (h : ae)
def akr:=bE prog 121 [[],[],[],[2,3,4,5,8,9,32],[3,4,5,8,9,32,37],[],[4,5,8,9],[]]
@[irreducible] def D6:=bM akr
@[irreducible] def acv:=D6.r.r.r.l.l.r.l
@[irreducible] def avV:=D6.r.r.r.l.r
@[irreducible] def acu:=D6.r.r.r.r
@[irreducible] def avW:=acv.r.l
@[irreducible] def avU:=acu.l
theorem aDl:akr=some (47,D6,[.cell true 2 4,.cell true 2 5]):=by kernel_rfl
def NZ (_P:Program) (K:VK):ar:=aT [.cell true 2 4,.cell true 2 5] K
def Z2:ar:=aH (aj P acu (NZ P K)) (NZ P K)
def Z3:ar:=aH (aj P avV (Z2 P K)) (Z2 P K)
def amu:Prop:=ax (aj P acv (Z3 P K)) [2,3,4,5,8,9,32] [a2,b3,x4,x5,x8,y9,bV] h
def VH:Prop:=ax (aj P avW (Z3 P K)) [3,4,5,8,9,32,37] [b3,x4,x5,x8,y9,bV,er] h
def VG:Prop:=ax (aj P avU (NZ P K)) [4,5,8,9] [x4,x5,x8,y9] h
theorem aFw:VH P K b3 x4 x5 x8 y9 bV er h=
 (OP (bF bV er (.bool false)) λdO=>
 aN dO
 (OP (af true 2 h x8) λeY=>
 (True)/\
 ak P 105 [(.int .i64 (1))] h λeJ z1=>
 (af true 2 z1 x8=some eY/\True)/\
 ak P 127 [eY,eJ] z1 λdW z2=>
 (True)/\
 OP (af true 2 z2 y9) λeO=>
 (af true 2 h y9=some eO/\af true 2 z1 y9=some eO/\True)/\
 OP (af true 2 z2 b3) λcj=>
 (af true 2 h b3=some cj/\af true 2 z1 b3=some cj/\True)/\
 ak P 113 [eO,cj] z2 λbu z3=>
 (True)/\
 OH (aG 2 z3 x8 dW) λ_ z4=>
 (True)/\
 OH (aG 2 z4 y9 bu) λ_ z5=>
 (True)/\
 VG P K x4 x5 x8 y9 z5)
 (VG P K x4 x5 x8 y9 h)):=az (by kernel_rfl)
theorem aFv:amu P K a2 b3 x4 x5 x8 y9 bV h=
 (ck bV true
 (OP (aJ 0 a2) λdK=>
 OP (af false 1 h dK) λcK=>
 OP (aJ 0 b3) λdw=>
 OP (af false 1 h dw) λdc=>
 OP (uQ true cK dc) λer=>
 VH P K b3 x4 x5 x8 y9 bV er h)
 (VH P K b3 x4 x5 x8 y9 bV undef h)):=az (by kernel_rfl)
theorem aFu:VG P K x4 x5 x8 y9 h=
 (OP (af true 2 h x8) λcS=>
 (True)/\
 OP (af true 2 h y9) λcI=>
 (True)/\
 OH (aG 2 h x4 cS) λ_ z1=>
 (af true 2 z1 y9=some cI/\True)/\
 OH (aG 2 z1 x5 cI) λ_ z2=>
 (True)/\
 OP (af true 2 z2 x4) λr0=>
 OP (af true 2 z2 x5) λr1=>
 K (.tuple #[r0,r1]) z2):=az (by kernel_rfl)
def O2:Prop:=
 OH (bp 105 h a0) λa2 z1=>
 OH (bp 105 z1 b1) λb3 z2=>
 OH (aV 105 [(.bool false),(.slice none 0 0)] z2) λx4 z3=>
 OH (aV 105 [(.bool false),(.slice none 0 0)] z3) λx5 z4=>
 OP (aJ 1 a2) λau=>
 OP (af false 1 z4 au) λaD=>
 OP (aJ 1 b3) λaB=>
 OP (af false 1 z4 aB) λaA=>
 ak P 130 [aD,aA] z4 λaP z5=>
 OP (cD 0 aP) λaL=>
 OP (cD 1 aP) λbK=>
 OH (aV 105 [(.bool false),(.slice none 0 0)] z5) λx8 z6=>
 OP (dh z6 x8) λu=>
 (True)/\
 OH (aV 105 [(.bool false),(.slice none 0 0)] z6) λy9 z7=>
 OP (dh z7 y9) λx1=>
 (dh z7 x8=some u/\True)/\
 OP (aJ 0 a2) λaS=>
 OP (af false 1 z7 aS) λaK=>
 (af false 1 z5 aS=some aK/\af false 1 z6 aS=some aK/\True)/\
 OP (aJ 0 b3) λaU=>
 OP (af false 1 z7 aU) λba=>
 (af false 1 z5 aU=some ba/\af false 1 z6 aU=some ba/\True)/\
 OP (uQ true aK ba) λbO=>
 ak P 117 [bO,aL] z7 λbL z8=>
 (dh z8 x8=some u/\dh z8 y9=some x1/\True)/\
 OP (aJ 0 a2) λbX=>
 OP (af false 1 z8 bX) λcV=>
 (af false 1 z5 bX=some cV/\af false 1 z6 bX=some cV/\af false 1 z7 bX=some cV/\True)/\
 ak P 117 [cV,bK] z8 λcG z9=>
 (dh z9 x8=some u/\dh z9 y9=some x1/\True)/\
 OH (aG 2 z9 x8 bL) λ_ hX=>
 (True)/\
 OH (aG 2 hX y9 cG) λ_ jx=>
 (True)/\
 OP (bk bK) λdm=>
 OP (ai .gtr dm (.int .i64 (0))) λcC=>
 amu P K a2 b3 x4 x5 x8 y9 cC jx
theorem azJ:aj P D6 (aT [.cell true 2 4,.cell true 2 5] K) (bw [a0,b1]) h=O2 P K a0 b1 h:=by kernel_rfl
theorem f121 {K:VK} {a0 b1:Value} {h:ae} (H:O2 prog K a0 b1 h):ak prog 121 [a0,b1] h K:=
 bN aDl (bJ rfl) ((azJ prog K a0 b1 h).mpr H)
end
noncomputable section
variable (a0 b1 x8 v9 sC lM qw uW : Value) (L1 : LQ) (xs : List Value) (h : ae)
def akB:=bE prog 130 [[],[],[],[],[],[],[],[],[],[],[],[],[],[8,9,10,11,12],[13],[],[],[],[8,10,11,12],[]]
@[irreducible] def ID:=bM akB
@[irreducible] def awh:=ID.r.r.r.r.r.r.r.l.r.l.l
@[irreducible] def acP:=ID.r.r.r.r.r.r.r.r
@[irreducible] def awi:=acP.l
theorem aDu:akB=some (85,ID,[.tmp 4,.tmp 5]):=by kernel_rfl
def N5 (_P:Program) (K:VK):ar:=aT [.tmp 4,.tmp 5] K
def asI:ar:=aH (aj P acP (N5 P K)) (N5 P K)
def asJ:ar:=bH 0 (asI P K)
def asK:ar:=aH (λf' aX=>(([8,9,10,11,12]:List Nat).map f':List Value)=[x8,v9,sC,lM,qw]/\L1 (([13]:List Nat).map f') aX) (asJ P K)
def VO:Prop:=ax (aj P awh (asK P K x8 v9 sC lM qw L1)) ([8,9,10,11,12]++[13]) ([x8,v9,sC,lM,qw]++xs) h
def amP:Prop:=ax (aj P awi (N5 P K)) [8,10,11,12] [x8,sC,lM,qw] h
theorem aFS (x8 v9 sC lM qw:Value) (L1:LQ) (uW:Value) (h:ae):VO P K x8 v9 sC lM qw L1 [uW] h=
 (OP (ai .geq uW (.int .i64 (0))) λng=>
 aN ng
 (OP (ai .add uW lM) λiD=>
 OP (ai .add iD (.int .i64 (1))) λkW=>
 OP (nX 177 1 sC (some uW) (some kW)) λmi=>
 ak P 137 [mi,v9] h λkn z1=>
 OP (aZ 1 qw uW) λiE=>
 OH (aG 1 z1 iE kn) λ_ z2=>
 OP (ai .sub uW (.int .i64 (1))) λkf=>
 ([x8,v9,sC,lM,qw]:List Value)=[x8,v9,sC,lM,qw]/\L1 [kf] z2)
 (amP P K x8 sC lM qw h)):=az (by kernel_rfl)
theorem aFT:amP P K x8 sC lM qw h=
 (ak P 118 [qw] h λfJ z1=>
 (True)/\
 OP (nX 177 1 sC none (some lM)) λjT=>
 ak P 118 [jT] z1 λfc z2=>
 (True)/\
 ak P 138 [fc,x8] z2 λeB z3=>
 (True)/\
 K (.tuple #[fJ,eB]) z3):=az (by kernel_rfl)
def HM:Prop:=
 ak P 126 [a0,b1] h λaL z1=>
 OP (ai .lss aL (.int .i64 (0))) λbK=>
 aN bK
 (OH (eG 177 1 4 z1 (.slice none 0 0) a0) λaK z2=>
 K (.tuple #[(.slice none 0 0),aK]) z2)
 (OP (bk b1) λba=>
 OP (ai .eql ba (.int .i64 (1))) λbO=>
 aN bO
 (OP (aZ 1 b1 (.int .i64 (0))) λcV=>
 OP (af false 1 z1 cV) λb9=>
 ak P 114 [a0,b9] z1 λcG z2=>
 OP (cD 0 cG) λcM=>
 OP (cD 1 cG) λdm=>
 OH (dN 177 1 [(.int .u32 (0))] z2 [(0,1,dm)]) λdK z3=>
 ak P 118 [dK] z3 λcK z4=>
 K (.tuple #[cM,cK]) z4)
 (OP (bk b1) λer=>
 OP (ai .sub er (.int .i64 (1))) λdO=>
 OP (aZ 1 b1 dO) λeY=>
 OP (af false 1 z1 eY) λeJ=>
 ak P 135 [eJ] z1 λdW z2=>
 ak P 136 [b1,dW] z2 λbu z3=>
 ak P 118 [bu] z3 λcS z4=>
 ak P 136 [a0,dW] z4 λfE z5=>
 OP (bk cS) λbY=>
 OP (bk a0) λde=>
 OP (ai .sub de bY) λcX=>
 OP (ai .add cX (.int .i64 (1))) λhI=>
 OH (lI 177 4 [(.int .u32 (0))] z5 hI hI) λiT z6=>
 OP (bk a0) λfO=>
 OP (ai .sub fO bY) λjw=>
 cO [jw] z6 λL1 xs hx=>
 VO P K dW cS fE bY iT L1 xs hx))
theorem azS:aj P ID (aT [.tmp 4,.tmp 5] K) (bw [a0,b1]) h=HM P K a0 b1 h:=by kernel_rfl
theorem f130 {K:VK} {a0 b1:Value} {h:ae} (H:HM prog K a0 b1 h):ak prog 130 [a0,b1] h K:=
 bN aDu (bJ rfl) ((azS prog K a0 b1 h).mpr H)
end
end
end Go.Proofs.YtelmdbpaoifmoaaGreat
