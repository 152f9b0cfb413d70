/-
  Part 4 of the texts behind a statement of this seat: DCt18, Sim22, SdEvH, SdLv, Pt8.
-/
import Derived.Test.YtlpdhfdpnakgdaaDoorProg
import Derived.KernelRfl
import Derived.Test.YtlpdhfdpnakgdaaDoorSa3
open Bool (and_eq_true)
open Nat (eq_of_beq_eq_true)
namespace Go.Proofs.YtlpdhfdpnakgdaaDoor
open Go.Sim
section
theorem sW {h:ad} {e:TypeId} {a v:Value} (h1:dI v=true) (h2:bc v=[v]):dJ 1 (h++[.arr e [a]]) (pt h.length 0) v=some (undef,h++[.arr e [v]]):=by
 simp [dJ,jz,h1,h2,setAt]
def lh (k:Int) (ps:List (Int×Int)) (s:List UInt8):Value:=
 if cT k ps [s] 16=0 then .tuple #[I (eP (aG ps) s.length (eT ps s)),I 0] else .tuple #[I 0,I (cT k ps [s] 16)]
theorem Of (k:Int) (ps:List (Int×Int)) (s:List UInt8):Ren λ_=>lh k ps s:=by
 unfold lh
 split <;> exact Ren.tuple (l:=[λ_=>I _,λ_=>I _]) (.cons (Ren.bn rfl) (.cons (Ren.bn rfl) .nil))
theorem yu {pv:Value} {ps:List (Int×Int)} {s:List UInt8} {k:Int} {h:ad} {K:Value->ad->Prop} (hp:PS h pv ps) (hl:ps.length<=100) (hs:s.length<=1000)
  (hk:K (lh k ps s) h):az Tryd.prog 16 [I k,pv,S s] h K:=by
 refine oD (v:=lh k ps s) (Of k ps s) ?_ hk
 refine f16 ?_
 simp only [tH,B9,ca]
 have hx:EX h (h++[.arr 9 [S s]]):=EX.append _ _
 have mg:SS (h++[.arr 9 [S s]]) (sl 9 h.length 0 1) [s]:=SS.sl (ls:=[s]) (by simp [aU])
 have al:∀(e:TypeId) (z:Value) (g:ad),jw e [z] g=some (pt g.length 0,g++[.arr e [z]]):=λ_ _ _=>rfl
 refine th (most:=16) (hp.mono hx) hl mg (by simp) (by simp;exact hs) (λhw=>?_) (λhw=>?_)
 ·simp only [gI,iU,iV,aq,al,ca,mW,dp hw,Bool.not_false]
  rw [sW rfl rfl]
  simp only [ca,gC]
  exact ⟨by unfold lh;rw [if_neg hw],hx.push _⟩
 ·obtain ⟨ht,pk⟩:=xW hw
  obtain ⟨n,rfl,hn1,bK⟩:=sX ht
  obtain ⟨hlen,vg⟩:=xD pk s (by simp)
  have ls:=r7 vg
  generalize vp:h++[.arr 9 [S s]]=h1 at*
  simp only [gI,iU,iV,aq,al,ca,mW,decide_true,Bool.not_true]
  have fo:TH (h1++[.arr 78 (bo n (bE ps))]) (pt h1.length 0) n (bE ps):=⟨h1.length,rfl,by simp [aU]⟩
  have x2:EX h1 (h1++[.arr 78 (bo n (bE ps))]):=EX.append _ _
  generalize h1++[ay.arr 78 (bo n (bE ps))]=h2 at fo x2⊢
  rw [sW rfl rfl]
  simp only [ca,fa]
  have x3:EX h2 (h2++[.arr 48 [pt h1.length 0]]):=EX.append _ _
  have l2:aw false 1 (h2++[.arr 48 [pt h1.length 0]]) (pt h2.length 0)=some (pt h1.length 0):=kX rfl
  generalize Pf:h2++[ay.arr 48 [pt h1.length 0]]=h3 at x3 l2⊢
  have mk:By h3=some (.map (some h3.length),h3++[.smap []]):=rfl
  simp only [mk,ca]
  have up:nQ (h3++[.smap []]) (.map (some h3.length)) (.string ⟨#[]⟩) (.int .i64 1)=some (undef,h3++[.smap [(⟨#[]⟩,I 1)]]):=by
   simp [nQ,nH,fy]
  simp only [up,ca]
  have Bh:h3.length<(h3++[ay.smap [(⟨#[]⟩,I 1)]]).length:=by simp
  generalize Bf:h3++[ay.smap [(⟨#[]⟩,I 1)]]=h4 at Bh⊢
  have x4:EX h3 h4:=by rw [<-Bf];exact EX.append _ _
  have g4:h4[h3.length]?=some (.smap [(⟨#[]⟩,I 1)]):=by rw [<-Bf];exact lR
  rw [sW rfl rfl]
  simp only [ca]
  have l1:aw false 1 (h4++[.arr 72 [.map (some h3.length)]]) (pt h4.length 0)=some (.map (some h3.length)):=kX rfl
  have x5:EX h4 (h4++[.arr 72 [.map (some h3.length)]]):=EX.append _ _
  generalize Pg:h4++[ay.arr 72 [.map (some h3.length)]]=h5 at l1 x5⊢
  rw [sW rfl rfl]
  simp only [ca]
  have l3:aw false 1 (h5++[.arr 73 [.func (.func 34) #[] #[pt h4.length 0,pt h2.length 0,pt h5.length 0]]]) (pt h5.length 0)=some (.func (.func 34) #[] #[pt h4.length 0,pt h2.length 0,pt h5.length 0]):=kX rfl
  have x6:EX h5 (h5++[.arr 73 [.func (.func 34) #[] #[pt h4.length 0,pt h2.length 0,pt h5.length 0]]]):=EX.append _ _
  generalize Ph:h5++[ay.arr 73 [.func (.func 34) #[] #[pt h4.length 0,pt h2.length 0,pt h5.length 0]]]=h6 at l3 x6⊢
  have l2:=EX.load ((x4.trans x5).trans x6) l2
  have l1:=EX.load x6 l1
  have fo:=fo.mono (((x3.trans x4).trans x5).trans x6)
  have g6:=(x5.trans x6).get g4
  have rQ:EX h h6:=((((hx.trans x2).trans x3).trans x4).trans x5).trans x6
  have Bi:h3.length<h6.length:=Nat.lt_of_lt_of_le Bh (x5.trans x6).1
  have Ja:h.length<=h3.length:=((hx.trans x2).trans x3).1
  have e6:h6=dv h6 h3.length [(⟨#[]⟩,I 1)]:=by
   unfold dv
   apply List.ext_getElem?
   intro j
   by_cases hj:h3.length=j
   ·subst hj;rw [g6];simp [Bi]
   ·rw [List.getElem?_set_ne hj]
  have wC:∀(es:List (ByteArray×Value)) {agg:Bool} {m:Nat} {a v:Value},aw agg m h6 a=some v->aw agg m (dv h6 h3.length es) a=some v:=by
   intro es agg m a v hv
   unfold aw at hv⊢
   split at hv
   ·rename_i j o
    have hj:h3.length≠j:=by
     rintro rfl
     unfold aU at hv
     rw [g6] at hv
     simp at hv
    have:aU (dv h6 h3.length es) j=aU h6 j:=by
     unfold aU dv
     rw [List.getElem?_set_ne hj]
    simp only [this]
    exact hv
   ·cases hv
  have N2:∀es,TH (dv h6 h3.length es) (pt h1.length 0) n (bE ps):=by
   intro es
   obtain ⟨ti,e1,e2⟩:=fo
   refine ⟨ti,e1,?_⟩
   have hj:h3.length≠ti:=by
    rintro rfl
    unfold aU at e2
    rw [g6] at e2
    simp at e2
   unfold aU dv at*
   rw [List.getElem?_set_ne hj]
   exact e2
  simp only [l2,l3,aq,true_and]
  refine qi (k:=n) fo bK hs ls ?_
  rw [qz bK ls]
  simp only [l3,true_and]
  refine At CF ?_
  obtain ⟨q1,q2⟩:=qA (ps:=ps) (kh bK ls)
  have q3:=y6 (ps:=ps) bK ls
  have ju:MG (aG ps) [(⟨#[]⟩,I 1)]:=by
   intro l v hv
   simp only [dr] at hv
   split at hv
   ·rename_i rD
    have:l=[]:=key_inj (l:=l) (m:=[]) rD
    subst this
    exact (Option.some.inj hv).symm
   ·cases hv
  conv=>arg 4;rw [e6]
  refine yy (n:=n) Bi (λes=>wC es l1) (λes=>wC es l2) (λes=>wC es l3) N2 bK s.length q3 q2 hlen ju (by simp [dr]) ?_
  intro lH _ _
  exact ⟨by unfold lh;rw [if_pos hw],rQ.set Ja _⟩
end
end Go.Proofs.YtlpdhfdpnakgdaaDoor
namespace Go.Sim
section
abbrev qk:=Option (Exit×(Nat->Value)×ad)
abbrev iv:=Fn->List Value->ad->Option (Value×ad)
def ta:Value->Value->Bool
 | .int k a,.int k' b=>decide (k=k')&&decide (a=b)
 | .bool a,.bool b=>a==b
 | .string s,.string t=>decide (bytes s=bytes t)
 | .pointer (some ⟨i,o,none⟩),.pointer (some ⟨j,p,none⟩)=>Nat.beq i j&&Nat.beq o p
 | .slice none a b,.slice none c d=>Nat.beq a c&&Nat.beq b d
 | .slice (some ⟨i,o,some e⟩) a b,.slice (some ⟨j,p,some e'⟩) c d=>Nat.beq i j&&Nat.beq o p&&Nat.beq e e'&&Nat.beq a c&&Nat.beq b d
 | _,_=>false
theorem El {a b:Value} (h:ta a b=true):a=b:=by
 unfold ta at h
 split at h
 ·simp at h;rw [h.1,h.2]
 ·simp at h;rw [h]
 ·rename_i s t
  simp at h
  have:=pJ s
  rw [h,pJ] at this
  rw [this]
 ·simp only [and_eq_true] at h
  rw [eq_of_beq_eq_true h.1,eq_of_beq_eq_true h.2]
 ·simp only [and_eq_true] at h
  rw [eq_of_beq_eq_true h.1,eq_of_beq_eq_true h.2]
 ·simp only [and_eq_true] at h
  obtain ⟨⟨⟨⟨h1,h2⟩,h3⟩,h4⟩,h5⟩:=h
  rw [eq_of_beq_eq_true h1,eq_of_beq_eq_true h2,eq_of_beq_eq_true h3,eq_of_beq_eq_true h4,eq_of_beq_eq_true h5]
 ·cases h
def tb:List Value->List Value->Bool
 | [],[]=>true
 | x::xs,y::ys=>ta x y&&tb xs ys
 | _,_=>false
theorem Em:∀{xs ys:List Value},tb xs ys=true->xs=ys
 | [],[],_=>rfl
 | x::xs,y::ys,h=>by
  simp only [tb,and_eq_true] at h
  rw [El h.1,Em h.2]
 | [],_::_,h=>by cases h
 | _::_,[],h=>by cases h
def s9:Value->Value->Bool
 | .agg xs,.agg ys=>tb xs.toList ys.toList
 | a,b=>ta a b
theorem En {a b:Value} (h:s9 a b=true):a=b:=by
 unfold s9 at h
 split at h
 ·rw [Array.ext' (Em h)]
 ·exact El h
def jB (P:Program) (call:iv) (io:cL) (f:Nat->Value) (h:ad):Option (Value×ad):=
 match io with
 | .p o=>match cP o (ev f) with | some v=>some (v,h) | none=>none
 | .l o=>match bM o (ev f) h with | some v=>some (v,h) | none=>none
 | .e o=>bW o (ev f) h
 | .call g args=>call (.func g) (args.map (ev f)) h
 | .ej x args=>
  match ev f x with
  | .func (.func g) first cap=>if gF P g=true then call (.func g) (first.toList++args.map (ev f)++cap.toList) h else none
  | .func (.yield i) first cap=>if first.size=0/\cap.size=0 then call (.yield i) (args.map (ev f)) h else none
  | _=>none
structure qj (P:Program) (call:iv):Prop where
 fn:∀F args h v h',call (.func F) args h=some (v,h')->mQ P F args h v h'
 yi:∀i args h v h',call (.yield i) args h=some (v,h')->tm P i args h v h'
section
variable {P : Program} {call : iv} (HC : qj P call)
include HC
theorem pP {io:cL} {f:Nat->Value} {h h':ad} {v:Value} {K:Value->ad->Prop} (he:jB P call io f h=some (v,h')) (hk:K v h'):aT P io f h K:=by
 cases io with
 | p o=>
  simp only [jB] at he
  split at he
  ·rename_i u hu
   simp at he
   obtain ⟨rfl,rfl⟩:=he
   simp [aT,bH,hu,hk]
  ·cases he
 | l o=>
  simp only [jB] at he
  split at he
  ·rename_i u hu
   simp at he
   obtain ⟨rfl,rfl⟩:=he
   simp [aT,bH,hu,hk]
  ·cases he
 | e o=>
  simp only [jB] at he
  simp [aT,fx,he,hk]
 | call g args=>exact ⟨v,h',HC.fn _ _ _ _ _ he,hk⟩
 | ej x args=>
  simp only [jB] at he
  simp only [aT,ji]
  split at he
  ·rename_i g first cap hx
   rw [hx]
   split at he
   ·rename_i eU
    exact ⟨eU,v,h',HC.fn _ _ _ _ _ he,hk⟩
   ·cases he
  ·rename_i i first cap hx
   rw [hx]
   split at he
   ·rename_i hs
    exact ⟨⟨Array.eq_empty_of_size_eq_zero hs.1,Array.eq_empty_of_size_eq_zero hs.2⟩,v,h',HC.yi _ _ _ _ _ he,hk⟩
   ·cases he
  ·cases he
end
def nj (P:Program) (call:iv):List eD->(Nat->Value)->ad->Option ((Nat->Value)×ad)
 | [],f,h=>some (f,h)
 | o::os,f,h=>match jB P call o.op f h with | some (v,h')=>nj P call os (ba f o.dst v) h' | none=>none
def wS (P:Program) (call:iv) (g:Option (Nat×Bool)) (l:List eD) (f:Nat->Value) (h:ad):Option ((Nat->Value)×ad):=
 match g with
 | none=>nj P call l f h
 | some (s,b)=>match f s with
  | .bool c=>if (c==b)=true then nj P call l f h else some (p7 l f,h)
  | .complex _ _ _=>none
  | _=>some (p7 l f,h)
def pS (pre:Nat) (lo:ga) (f:Nat->Value) (v:Value):List (Nat×ad)->Bool
 | []=>true
 | (e,H)::r=>if pre.testBit e=true then pS pre lo f v r else (match bM lo (ev f) H with | some u=>s9 u v | none=>false)&&pS pre lo f v r
def lM (pre:Nat) (H:ad):br->Bool
 | []=>true
 | (j,lo,f,v)::r=>if pre.testBit j=true then lM pre H r else (match bM lo (ev f) H with | some u=>s9 u v | none=>false)&&lM pre H r
theorem xo {pre:Nat} {lo:ga} {f:Nat->Value} {v:Value}:∀{l:List (Nat×ad)},pS pre lo f v l=true->kB pre lo f v l
 | [],_=>trivial
 | (e,H)::r,h=>by
  simp only [pS] at h
  simp only [kB]
  split at h
  ·rename_i hb;rw [if_pos hb];exact xo h
  ·rename_i hb
   rw [if_neg hb]
   simp only [and_eq_true] at h
   refine ⟨?_,xo h.2⟩
   have h1:=h.1
   split at h1
   ·rename_i u hu;rw [hu,En h1]
   ·cases h1
theorem lN {pre:Nat} {H:ad}:∀{l:br},lM pre H l=true->ek pre H l
 | [],_=>trivial
 | (j,lo,f,v)::r,h=>by
  simp only [lM] at h
  simp only [ek]
  split at h
  ·rename_i hb;rw [if_pos hb];exact lN h
  ·rename_i hb
   rw [if_neg hb]
   simp only [and_eq_true] at h
   refine ⟨?_,lN h.2⟩
   have h1:=h.1
   split at h1
   ·rename_i u hu;rw [hu,En h1]
   ·cases h1
abbrev yE:=Option (List (Nat×ad)×br×(Nat->Value)×ad)
def jV (P:Program) (call:iv):List dE->Nat->List (Nat×ad)->br->(Nat->Value)->ad->yE
 | [],_,ah,ag,f,h=>some (ah,ag,f,h)
 | o::os,j,ah,ag,f,h=>
  match jB P call o.op f h with
  | some (v,h')=>
   match o.op with
   | .p _=>jV P call os (j+1) ah ag (ba f o.dst v) h'
   | .l lo=>if pS o.pre lo f v ah=true then jV P call os (j+1) ah (ag++[(j,lo,f,v)]) (ba f o.dst v) h' else none
   | .e (.fl _)=>
    match fE h' v with
    | some u=>if lM o.pre h' ag=true then jV P call os (j+1) (ah++[(j,h)]) (ag++[(j,.obj (.const v),f,u)]) (ba f o.dst v) h' else none
    | none=>none
   | _=>if lM o.pre h' ag=true then jV P call os (j+1) (ah++[(j,h)]) ag (ba f o.dst v) h' else none
  | none=>none
def ni:List dE->Nat->List (Nat×ad)->br->(Nat->Value)->ad->yE
 | [],_,ah,ag,f,h=>some (ah,ag,f,h)
 | o::os,j,ah,ag,f,h=>
  match o.op.aW with
  | false=>ni os (j+1) ah ag (ba f o.dst undef) h
  | true=>if lM o.pre h ag=true then ni os (j+1) (ah++[(j,h)]) ag (ba f o.dst undef) h else none
def lO (P:Program) (call:iv):List (Option (Nat×Bool)×List dE)->Nat->List (Nat×ad)->br->(Nat->Value)->ad->Option ((Nat->Value)×ad)
 | [],_,_,_,f,h=>some (f,h)
 | (none,l)::gs,j,ah,ag,f,h=>
  match jV P call l j ah ag f h with
  | some (ah,ag,f,h)=>lO P call gs (j+l.length) ah ag f h
  | none=>none
 | (some (s,b),l)::gs,j,ah,ag,f,h=>
  match f s with
  | .bool c=>
   match (if (c==b)=true then jV P call l j ah ag f h else ni l j ah ag f h) with
   | some (ah,ag,f,h)=>lO P call gs (j+l.length) ah ag f h
   | none=>none
  | _=>none
section
variable {P : Program} {call : iv} (HC : qj P call)
include HC in
theorem vb:∀{l:List eD} {f f':Nat->Value} {h h':ad} {K:(Nat->Value)->ad->Prop},nj P call l f h=some (f',h')->K f' h'->kJ P l K f h
 | [],f,f',h,h',K,he,hk=>by simp [nj] at he;obtain ⟨rfl,rfl⟩:=he;exact hk
 | o::os,f,f',h,h',K,he,hk=>by
  simp only [nj] at he
  split at he
  ·rename_i v h1 ho
   exact pP HC ho (vb he hk)
  ·cases he
include HC in
theorem Lx {g:Option (Nat×Bool)} {l:List eD} {f f':Nat->Value} {h h':ad} {K:(Nat->Value)->ad->Prop} (he:wS P call g l f h=some (f',h')) (hk:K f' h'):ki P g l K f h:=by
 cases g with
 | none=>exact vb HC he hk
 | some sb=>
  obtain ⟨s,b⟩:=sb
  simp only [wS] at he
  simp only [ki,dN]
  split at he
  ·rename_i c hc
   rw [hc]
   simp only
   split at he
   ·rename_i hb;rw [if_pos hb];exact vb HC he hk
   ·rename_i hb;rw [if_neg hb];simp at he;obtain ⟨rfl,rfl⟩:=he;exact hk
  ·cases he
  ·rename_i h1 h2
   simp at he
   obtain ⟨rfl,rfl⟩:=he
   split
   ·rename_i c hc;exact absurd hc (h1 c)
   ·rename_i a b c hc;exact absurd hc (h2 a b c)
   ·exact hk
include HC in
theorem kH:∀{l:List dE} {j:Nat} {ah gf:List (Nat×ad)} {ag fT:br} {f f':Nat->Value} {h h':ad} {K:List (Nat×ad)->br->(Nat->Value)->ad->Prop},
  jV P call l j ah ag f h=some (gf,fT,f',h')->K gf fT f' h'->fM P l j ah ag K f h
 | [],j,ah,gf,ag,fT,f,f',h,h',K,he,hk=>by simp [jV] at he;obtain ⟨rfl,rfl,rfl,rfl⟩:=he;exact hk
 | o::os,j,ah,gf,ag,fT,f,f',h,h',K,he,hk=>by
  simp only [jV] at he
  simp only [fM]
  split at he
  ·rename_i v h1 ho
   cases aQ:o.op with
   | p po=>
    rw [aQ] at ho he
    simp only at he
    have:=pP (K:=λv h'=>fM P os (j+1) ah ag K (ba f o.dst v) h') HC ho (kH he hk)
    simp only [dU]
    simp only [aT] at this
    simp only [jB] at ho
    split at ho
    ·rename_i u hu
     simp at ho
     obtain ⟨rfl,rfl⟩:=ho
     exact this
    ·cases ho
   | l lo=>
    rw [aQ] at ho he
    simp only at he
    split at he
    ·rename_i hp
     simp only [jB] at ho
     split at ho
     ·rename_i u hu
      simp at ho
      obtain ⟨rfl,rfl⟩:=ho
      simp only [dU,bH,hu]
      exact ⟨xo hp,kH he hk⟩
     ·cases ho
    ·cases he
   | e eo=>
    cases eo with
    | fl a=>
     rw [aQ] at ho he
     simp only at he
     split at he
     ·rename_i u hu
      split at he
      ·rename_i hp
       simp only [jB] at ho
       simp only [dU,ho,fx,hu,bH]
       exact ⟨lN hp,kH he hk⟩
      ·cases he
     ·cases he
    | _=>
    rw [aQ] at ho he
    simp only at he
    split at he
    ·rename_i hp
     exact pP (io:=.e _) (K:=λv h'=>ek o.pre h' ag/\fM P os (j+1) (ah++[(j,h)]) ag K (ba f o.dst v) h') HC ho ⟨lN hp,kH he hk⟩
    ·cases he
   | call g args=>
    rw [aQ] at ho he
    simp only at he
    split at he
    ·rename_i hp
     exact pP (io:=.call g args) (K:=λv h'=>ek o.pre h' ag/\fM P os (j+1) (ah++[(j,h)]) ag K (ba f o.dst v) h') HC ho ⟨lN hp,kH he hk⟩
    ·cases he
   | ej x args=>
    rw [aQ] at ho he
    simp only at he
    split at he
    ·rename_i hp
     exact pP (io:=.ej x args) (K:=λv h'=>ek o.pre h' ag/\fM P os (j+1) (ah++[(j,h)]) ag K (ba f o.dst v) h') HC ho ⟨lN hp,kH he hk⟩
    ·cases he
  ·cases he
theorem u7:∀{l:List dE} {j:Nat} {ah gf:List (Nat×ad)} {ag fT:br} {f f':Nat->Value} {h h':ad} {K:List (Nat×ad)->br->(Nat->Value)->ad->Prop},
  ni l j ah ag f h=some (gf,fT,f',h')->K gf fT f' h'->jW l j ah ag K f h
 | [],j,ah,gf,ag,fT,f,f',h,h',K,he,hk=>by simp [ni] at he;obtain ⟨rfl,rfl,rfl,rfl⟩:=he;exact hk
 | o::os,j,ah,gf,ag,fT,f,f',h,h',K,he,hk=>by
  simp only [ni] at he
  simp only [jW,kE]
  cases ho:o.op.aW with
  | false=>rw [ho] at he;exact u7 he hk
  | true=>
   rw [ho] at he
   simp only at he
   split at he
   ·rename_i hp;exact ⟨lN hp,u7 he hk⟩
   ·cases he
include HC in
theorem ri:∀{gs:List (Option (Nat×Bool)×List dE)} {j:Nat} {ah:List (Nat×ad)} {ag:br} {f f':Nat->Value} {h h':ad} {K:(Nat->Value)->ad->Prop},
  lO P call gs j ah ag f h=some (f',h')->K f' h'->fL P gs j ah ag K f h
 | [],j,ah,ag,f,f',h,h',K,he,hk=>by simp [lO] at he;obtain ⟨rfl,rfl⟩:=he;exact hk
 | (none,l)::gs,j,ah,ag,f,f',h,h',K,he,hk=>by
  simp only [lO] at he
  simp only [fL]
  split at he
  ·rename_i hs ls f1 h1 hr
   exact kH HC hr (ri he hk)
  ·cases he
 | (some (s,b),l)::gs,j,ah,ag,f,f',h,h',K,he,hk=>by
  simp only [lO] at he
  simp only [fL,dN]
  split at he
  ·rename_i c hc
   rw [hc]
   simp only
   split at he
   ·rename_i hs ls f1 h1 hr
    split at hr
    ·rename_i hb;rw [if_pos hb];exact kH HC hr (ri he hk)
    ·rename_i hb;rw [if_neg hb];exact u7 hr (ri he hk)
   ·cases he
  ·cases he
end
def mw (body:(Nat->Value)->ad->qk) (ls:List Nat):Nat->List Value->ad->qk
 | 0,_,_=>none
 | n+1,xs,h=>match body (ey ls xs) h with
  | some (.normal,f',h')=>mw body ls n (ls.map f') h'
  | r=>r
def wz (h:ad) (i:Nat):Bool:=match h[i]? with | some (.loop _ _ _)=>true | _=>false
def rZ (h:ad) (i:Nat):Bool:=match h[i]? with | some .dead=>true | _=>false
noncomputable def ep (P:Program) (call:iv) (n:Nat) (c:b9):(Nat->Value)->ad->qk:=
 b9.rec (motive:=λ_=>(Nat->Value)->ad->qk)
  (λf h=>some (.normal,f,h))
  (λl f h=>match lO P call l 0 [] [] f h with | some (f',h')=>some (.normal,f',h') | none=>none)
  (λg l f h=>match wS P call g l f h with | some (f',h')=>some (.normal,f',h') | none=>none)
  (λ_ _ ea eb f h=>match ea f h with | some (.normal,f',h')=>eb f' h' | r=>r)
  (λls _ ec f h=>ec (ey ls (ls.map f)) h)
  (λc _ _ ea eb f h=>match ev f c with | .bool true=>ea f h | .bool false=>eb f h | _=>none)
  (λid _ ec f h=>match ec f h with | some (.exit i,f',h')=>if i=id then some (.normal,f',h') else some (.exit i,f',h') | r=>r)
  (λks ls _ ec f h=>match ks with | []=>mw ec ls n (ls.map f) h | _=>none)
  (λid f h=>some (.exit id,f,h))
  (λf h=>some (.ret,f,h))
  (λg ls c f h=>match ev f g with
   | .func (.func F) first cap=>
    if gF P F=true then
     match call (.func F) (first.toList++[.func (.yield h.length) #[] #[]]++cap.toList) (h++[.loop c ls (ls.map f)]) with
     | some (_,h')=>if wz h' h.length=true then some (.normal,f,h'.set h.length .dead) else none
     | none=>none
    else none
   | _=>none) c
theorem K5 {p:Nat->Prop}:∀n,p n->∃m,p m/\∀k,p k->m<=k:=by
 intro n
 induction n using Nat.strongRecOn with
 | _ n ih=>
  intro hn
  by_cases h:∃m,m<n/\p m
  ·obtain ⟨m,h1,h2⟩:=h;exact ih m h1 h2
  ·exact ⟨n,hn,λk hk=>Nat.le_of_not_lt λhlt=>h ⟨k,hlt,hk⟩⟩
theorem KC {h:ad} {i:Nat} (hl:wz h i=true):∃c ls vs,h[i]?=some (.loop c ls vs):=by
 unfold wz at hl
 split at hl
 ·rename_i c ls vs hh;exact ⟨c,ls,vs,hh⟩
 ·cases hl
theorem BM {h:ad} {i:Nat} (hl:rZ h i=true):h[i]?=some .dead:=by
 unfold rZ at hl
 split at hl
 ·assumption
 ·cases hl
theorem uK {P:Program} {call:iv} (HC:qj P call) {n:Nat} {c:b9}:∀{f f':Nat->Value} {h h':ad} {e:Exit} {K:ax},ep P call n c f h=some (e,f',h')->K e f' h'->cJ P c K f h:=by
 induction c with
 | skip=>intro f f' h h' e K he hk;simp [ep] at he;obtain ⟨rfl,rfl,rfl⟩:=he;exact hk
 | uE l=>
  intro f f' h h' e K he hk
  simp only [ep] at he
  split at he
  ·rename_i f1 h1 hg
   simp at he
   obtain ⟨rfl,rfl,rfl⟩:=he
   exact ri HC hg hk
  ·cases he
 | ops g l=>
  intro f f' h h' e K he hk
  simp only [ep] at he
  split at he
  ·rename_i f1 h1 hg
   simp at he
   obtain ⟨rfl,rfl,rfl⟩:=he
   exact Lx HC hg hk
  ·cases he
 | seq a b kT mo=>
  intro f f' h h' e K he hk
  have cX:(match ep P call n a f h with | some (.normal,f',h')=>ep P call n b f' h' | r=>r)=some (e,f',h'):=he
  show cJ P a (aJ (cJ P b K) K) f h
  split at cX
  ·rename_i f1 h1 h2
   exact kT h2 (mo cX hk)
  ·rename_i h1
   refine kT cX ?_
   cases e <;> first | exact hk | exact absurd cX (h1 _ _)
 | cut ls c ih=>intro f f' h h' e K he hk;exact ih (K:=K) he hk
 | cond c a b kT mo=>
  intro f f' h h' e K he hk
  have cX:(match ev f c with | .bool true=>ep P call n a f h | .bool false=>ep P call n b f h | _=>none)=some (e,f',h'):=he
  rw [BR]
  split at cX
  ·rename_i hc;rw [hc];exact kT cX hk
  ·rename_i hc;rw [hc];exact mo cX hk
  ·cases cX
 | block id c ih=>
  intro f f' h h' e K he hk
  have cX:(match ep P call n c f h with | some (.exit i,f',h')=>if i=id then some (.normal,f',h') else some (.exit i,f',h') | r=>r)=some (e,f',h'):=he
  show cJ P c (bO id K) f h
  split at cX
  ·rename_i i f1 h1 h2
   refine ih h2 ?_
   simp only [bO]
   split at cX
   ·rename_i dQ;simp at cX;obtain ⟨rfl,rfl,rfl⟩:=cX;rw [if_pos dQ];exact hk
   ·rename_i dQ;simp at cX;obtain ⟨rfl,rfl,rfl⟩:=cX;rw [if_neg dQ];exact hk
  ·rename_i h1
   refine ih cX ?_
   cases e with
   | exit i=>exact absurd cX (h1 _ _ _)
   | _=>exact hk
 | loop ks ls c ih=>
  intro f f' h h' e K he hk
  cases ks with
  | cons k ks=>cases he
  | nil=>
   have cX:mw (ep P call n c) ls n (ls.map f) h=some (e,f',h'):=he
   show pG (ls.map f) h λL xs hx=>cJ P c (aJ (λf' aS=>([]:List Nat).map f'=[].map f/\L (ls.map f') aS) K) (ey ([]++ls) (([]:List Nat).map f++xs)) hx
   let J:List Value->ad->Prop:=λys hy=>∃m,mw (ep P call n c) ls m ys hy=some (e,f',h')
   have least:∀ys hy,J ys hy->∃m,mw (ep P call n c) ls m ys hy=some (e,f',h')/\∀k,mw (ep P call n c) ls k ys hy=some (e,f',h')->m<=k:=λys hy ⟨m,hm⟩=>K5 m hm
   classical
   let μ:List Value->ad->Nat:=λys hy=>if hJ:J ys hy then Classical.choose (least ys hy hJ) else 0
   refine ⟨J,μ,⟨n,cX⟩,?_⟩
   intro xs hx hJ
   have pn:=Classical.choose_spec (least xs hx hJ)
   have Km:μ xs hx=Classical.choose (least xs hx hJ):=dif_pos hJ
   rw [<-Km] at pn
   obtain ⟨h1,h2⟩:=pn
   generalize μ xs hx=m at h1 h2
   cases m with
   | zero=>cases h1
   | succ m=>
    simp only [mw] at h1
    simp only [List.map_nil,List.nil_append]
    split at h1
    ·rename_i f1 g1 hb
     refine ih hb ?_
     refine ⟨trivial,⟨m,h1⟩,?_⟩
     have nk:J (ls.map f1) g1:=⟨m,h1⟩
     have fm:=Classical.choose_spec (least _ _ nk)
     have Kn:μ (ls.map f1) g1=Classical.choose (least _ _ nk):=dif_pos nk
     rw [Kn]
     exact Nat.lt_succ_of_le (fm.2 m h1)
    ·rename_i hn
     refine ih h1 ?_
     cases e with
     | normal=>exact absurd h1 (hn _ _)
     | _=>exact hk
 | exit id=>intro f f' h h' e K he hk;simp [ep] at he;obtain ⟨rfl,rfl,rfl⟩:=he;exact hk
 | ret=>intro f f' h h' e K he hk;simp [ep] at he;obtain ⟨rfl,rfl,rfl⟩:=he;exact hk
 | range g ls c=>
  intro f f' h h' e K he hk
  simp only [ep] at he
  show kZ P (ev f g) ls (ls.map f) c h (K .normal f)
  unfold kZ
  split at he
  ·rename_i F first cap hg
   rw [hg]
   split at he
   ·rename_i eU
    split at he
    ·rename_i v h1 hc
     split at he
     ·rename_i hl
      simp at he
      obtain ⟨rfl,rfl,rfl⟩:=he
      exact ⟨eU,v,h1,HC.fn _ _ _ _ _ hc,KC hl,hk⟩
     ·cases he
    ·cases he
   ·cases he
  ·cases he
noncomputable def jR (P:Program) (H:FuncId->Hints) (lf:Nat):Nat->iv
 | 0=>λ_ _ _=>none
 | n+1=>λt args h=>
  match t with
  | .func F=>
   match cH P F (H F) with
   | some (N,ic,rs)=>
    if args.length<=N then
     match ep P (jR P H lf n) lf ic (cj args) h with
     | some (.normal,f,h')=>match fR rs f h' with | some vs=>some (pack vs,h') | none=>none
     | some (.ret,f,h')=>match fR rs f h' with | some vs=>some (pack vs,h') | none=>none
     | _=>none
    else none
   | none=>none
  | .yield i=>
   match h[i]? with
   | some (.loop c ls vs)=>
    match cU P c.N c.dM [],cU P c.N c.body [] with
    | some (ia,_),some (ib,_)=>
     if args.length=c.ps.size/\c.ps.all (·<c.N)=true/\ew c.dM=true/\ew c.body=true then
      match ep P (jR P H lf n) lf ia (nU c.ps.toList args (ey ls vs)) (h.set i .dead) with
      | some (.normal,f1,h1)=>
       if rZ h1 i=true then
        match ep P (jR P H lf n) lf ib f1 h1 with
        | some (.normal,_,h2)=>if rZ h2 i=true then some (.bool true,h2.set i (.loop c ls vs)) else none
        | _=>none
       else none
      | _=>none
     else none
    | _,_=>none
   | _=>none
  | _=>none
theorem sF:∀{rs:List ee} {f:Nat->Value} {h:ad} {vs:List Value} {k:List Value->Prop},fR rs f h=some vs->k vs->kp rs f h k
 | [],f,h,vs,k,he,hk=>by simp [fR] at he;subst he;exact hk
 | .tmp t::rs,f,h,vs,k,he,hk=>by
  simp only [fR,kU] at he
  split at he
  ·rename_i v dh h1 h2
   simp only [Option.some.injEq] at h1 he
   subst h1
   subst he
   exact sF (rs:=rs) h2 hk
  ·cases he
 | .cell agg n a::rs,f,h,vs,k,he,hk=>by
  simp only [fR,kU] at he
  split at he
  ·rename_i v dh h1 h2
   simp at he
   subst he
   simp only [kp,bH,h1]
   exact sF h2 hk
  ·cases he
theorem AO {P:Program} {H:FuncId->Hints} {lf:Nat}:∀n,qj P (jR P H lf n)
 | 0=>by constructor <;> (intro _ _ _ _ _ h;cases h)
 | n+1=>by
  have HC:=AO (P:=P) (H:=H) (lf:=lf) n
  constructor
  ·intro F args h v h' he
   simp only [jR] at he
   split at he
   ·rename_i N ic rs hc
    split at he
    ·rename_i ha
     have key:∀{e f h1 vs},(e=Exit.normal∨e=Exit.ret)->ep P (jR P H lf n) lf ic (cj args) h=some (e,f,h1)->fR rs f h1=some vs->mQ P F args h (pack vs) h1:=by
      intro e f h1 vs vk oV hr
      obtain ⟨u,g,q1,rfl,rfl⟩:=BB hc ha (K:=λu g=>u=pack vs/\g=h1) (uK HC oV (by
       rcases vk with rfl | rfl
       ·exact sF hr ⟨rfl,rfl⟩
       ·exact sF hr ⟨rfl,rfl⟩))
      exact q1
     split at he
     ·rename_i f h1 oV
      split at he
      ·rename_i vs hr
       simp at he
       obtain ⟨rfl,rfl⟩:=he
       exact key (.inl rfl) oV hr
      ·cases he
     ·rename_i f h1 oV
      split at he
      ·rename_i vs hr
       simp at he
       obtain ⟨rfl,rfl⟩:=he
       exact key (.inr rfl) oV hr
      ·cases he
     ·cases he
    ·cases he
   ·cases he
  ·intro i args h v h' he
   simp only [jR] at he
   split at he
   ·rename_i c ls vs hi
    split at he
    ·rename_i ia _ ib _ ha hb
     split at he
     ·rename_i IV
      obtain ⟨c1,c2,c3,c4⟩:=IV
      split at he
      ·rename_i f1 h1 e1
       split at he
       ·rename_i d1
        split at he
        ·rename_i f2 h2 e2
         split at he
         ·rename_i d2
          simp at he
          obtain ⟨rfl,rfl⟩:=he
          obtain ⟨u,g,q1,rfl,rfl⟩:=OS (K:=λu g=>u=.bool true/\g=h2.set i (.loop c ls vs)) hi c1 c2 ha hb c3 c4
           (uK HC e1 ⟨rfl,BM d1,uK HC e2 ⟨rfl,BM d2,rfl,rfl⟩⟩)
          exact q1
         ·cases he
        ·cases he
       ·cases he
      ·cases he
     ·cases he
    ·cases he
   ·cases he
theorem Ic {P:Program} (H:FuncId->Hints) (lf n:Nat) {F:FuncId} {args:List Value} {v:Value} (h:(jR P H lf n (.func F) args []).map Prod.fst=some v):∃h',mQ P F args [] v h':=by
 simp only [Option.map_eq_some_iff] at h
 obtain ⟨⟨u,h'⟩,h1,h2⟩:=h
 simp at h2
 subst h2
 exact ⟨h',(AO n).fn _ _ _ _ _ h1⟩
end
end Go.Sim
namespace Go.Proofs.YtlpdhfdpnakgdaaDoor
open Go.Sim
section
def AP:FuncId->Hints
 | 9=>[[],[],[],[],[],[],[3,4,5,6,7,8,9,35],[4,5,6,7,8,9,35,37],[4,5,6,7,8,9,39],[5,6,7,8,9,39,41],[5,6,7,8,9,43],[6,7,8,9,43,45],[6,7,8,9,47],[7,8,9,47,49],[7,8,9,51],[8,9,51,53],[8,9,55],[9,55,57],[9,59],[59,61],[]]
 | 10=>[[],[],[],[],[],[],[0,1,5],[],[],[],[],[],[],[]]
 | 17=>[[],[],[],[],[],[],[],[0,2,3,10,25,26,27],[],[],[],[],[],[],[0,3,10],[],[],[0,10,36,37,38],[],[],[],[],[],[0,10,15,36,37,38,43,44],[],[],[],[0,10,15,16,36,37,38,43,44,51],[0,10,15,36,37,38,43,44,51,58],[],[],[],[0,10,36,37,38],[10],[]]
 | 21=>[[],[]]
 | 27=>[[],[],[],[],[],[],[],[10],[],[],[],[],[13,51,52,53],[],[],[],[],[],[13],[]]
 | 28=>[[],[],[],[],[],[]]
 | 29=>[[],[],[2,8,23],[2,8,23,25],[2,8,27],[2,8,27,29],[],[],[],[],[],[],[2,8,10,11],[],[],[],[],[],[2,8,10,11,12,40,41,42],[],[],[],[2,8,10,11,12,13,14,40,41,42,61],[2,8,10,11,12,13,14,40,41,42,61,64],[],[],[2,8,10,11,12,40,41,42],[2,8,10,11,12],[2,8,10,11],[2,10],[]]
 | 30=>[[],[],[],[],[],[],[]]
 | 33=>[[],[],[],[0,1,5],[],[],[],[],[0,1,5,14,15],[],[],[],[],[],[],[],[],[5],[]]
 | 35=>[[],[],[],[0,1,2,9,10],[],[],[],[],[],[],[],[],[],[],[]]
 | 36=>[[],[]]
 | 37=>[[],[0,1,11],[0,1,11,13],[0,1,15],[0,1,15,18],[],[],[],[],[],[],[0,6,23,24,25],[],[],[],[0,6,8,23,24,25,35],[0,6,8,23,24,25,35,42],[0,6,8,23,24,25,44],[0,6,8,23,24,25,44,49],[],[],[],[],[6],[]]
 | 50=>[[],[]]
 | 51=>[[]]
 | 52=>[[],[],[],[0,2,3],[]]
 | 53=>[[],[],[],[],[0,3,19,20],[],[],[],[],[],[],[0,3,4,5,6,19,20,26,27],[],[],[],[],[],[],[],[],[0,3,4,5,6,7,19,20,26,27,37,38],[],[],[],[0,3,4,5,7,8,19,20,26,27,37,38,42],[0,3,4,5,7,8,19,20,26,27,37,38,42,48],[0,3,4,5,7,19,20,26,27,37,38,42,48,56],[0,3,4,5,7,19,20,26,27,37,38,42,57],[],[0,3,4,5,6,19,20,26,27],[0,3,5,6,19,20],[],[0,3,19,20],[3],[],[3],[],[],[3],[]]
 | 54=>[[],[],[],[],[],[],[]]
 | 55=>[[],[]]
 | 56=>[[],[]]
 | 57=>[[],[]]
 | 58=>[[],[],[],[],[],[],[1,4],[],[],[],[],[],[],[],[]]
 | 59=>[[],[],[],[],[0,1,2,9,10],[],[],[],[],[],[0,1,2,9,10,19,20],[],[],[],[],[],[0,1,2,9,10,12,13,14,19,20,36],[0,1,2,9,10,12,13,14,19,20,36,38],[],[0,1,2,9,10,19,20],[1,2,9],[]]
 | 65=>[[],[],[],[0,1,2,4,9,10],[],[],[],[],[],[],[0,1,2,4,5,6,9,10,16,17],[],[],[],[],[0,1,2,4,5,6,9,10,16,17],[0,1,2,4,5,6,9,10],[],[],[0,1,2,4,9,10]]
 | 66=>[[],[],[],[0,1,2,3,8,9],[],[],[],[],[],[],[],[],[],[0,1,2,3,8,9,10],[],[],[],[],[0,1,2,3,8,9,10,11,12],[0,1,2,3,8,9,10,11,12,62],[0,1,2,3,8,9,10,11,12,62,63],[0,1,2,3,8,9,10,11,12,65],[0,1,2,3,8,9,10,11,65,67],[],[],[0,1,2,3,8,9,10,11],[],[],[],[],[],[],[],[],[],[],[],[],[]]
 | 67=>[[],[],[],[]]
 | 68=>[[],[1,4,6],[1,4,6,9],[]]
 | 69=>[[],[],[0],[0,6],[0,6,13],[],[],[0],[]]
 | 70=>[[],[],[0,1],[],[],[],[],[0,1,5,6,21,22],[],[],[],[],[],[0,1,5,6,7,8,21,22],[0,1,5,6,21,22],[0,5,6],[],[]]
 | 71=>[[],[],[],[],[],[],[],[],[],[0,1,5],[],[],[],[],[],[],[],[],[],[]]
 | 72=>[[],[],[],[],[],[0,1,5,6,13,14],[],[],[],[],[],[0,1,5,6,7,8,13,14],[0,1,5,6,13,14],[5],[]]
 | 73=>[[],[],[],[],[1,5,18,19,20],[],[],[],[],[],[],[1,5,6,7,8,18,19,20,25,26,27],[],[],[],[],[],[1,5,6,8,18,19,20],[1,5,18,19,20],[5],[]]
 | 74=>[[],[]]
 | 75=>[[],[],[],[],[],[],[0,3],[],[],[],[],[],[3,4,5,6],[3,4,5,6,20],[3,4,5,6,20,24],[3,4,5,6,20,24,26],[3,4,5,6,20,27],[],[],[],[],[3,4],[3],[],[]]
 | 76=>[[],[1,8],[8,14],[]]
 | 84=>[[],[],[0,1,2,6],[],[],[],[],[0,1,2,6,7],[],[],[],[0,1,2,6]]
 | 90=>[[],[0,1,7],[0,1,7,10],[0,1,12],[12,15],[]]
 | 93=>[[],[],[],[0,2],[],[],[0,2],[]]
 | 94=>[[],[],[],[0,2],[],[],[0,2],[],[],[0,2],[]]
 | 95=>[[],[],[],[]]
 | 96=>[[],[],[]]
 | 97=>[[],[],[],[],[],[0,1,6,7,8],[],[],[],[],[6,7],[]]
 | 98=>[[],[],[0,2,3],[],[],[]]
 | 106=>[[],[]]
 | _=>[]
end
section
theorem Ld:(jR Tryd.prog AP 1000 30 (.func 9) [] []).map Prod.fst=some (.bool true):=by kernel_rfl
theorem C9 {h:ad} {K:Value->ad->Prop} (hk:K (.bool true) h):az Tryd.prog 9 [] h K:=by
 obtain ⟨h',hc⟩:=Ic AP 1000 30 Ld
 exact G8 (Ren.bn rfl) hc rfl hk
end
section
theorem Er {fr:UInt8->UInt8->Bool} (hs:∀a b,fr a b=fr b a):∀(f:Nat) {s:List UInt8},letters 6 s->s.length=f->eP fr f s=wW fr f s
 | 0,_,_,_=>rfl
 | f+1,s,ls,hl=>by
  refine xM λa _=>?_
  unfold wT
  cases h1:aO fr (lt a) s 0 with
  | none=>rfl
  | some i=>
   have hw:=gu (ng h1)
   have lw:=gU ls i
   have nF:(bf s i).length=f:=by omega
   obtain ⟨q1,q2⟩:=r5 (fr:=fr) (f:=f) lw nF
   show eP fr f (bX fr 6 f (bf s i))=wW fr f (bf s i)
   rw [Er hs f q1 q2]
   refine xR hs f q1 lw q2 ?_
   have:=uI hs lw
   rw [nF] at this
   exact this
theorem Ep (fr:UInt8->UInt8->Bool) (f:Nat) (s:List UInt8) {a:Nat}:∀{b:Nat},a<b->gY fr f s a<=fX fr f s b
 | 0,h=>by omega
 | b+1,h=>by
  rw [xU]
  by_cases np:a=b
  ·subst np;omega
  ·have:=Ep fr f s (a:=a) (b:=b) (by omega);omega
theorem Eo {fr:UInt8->UInt8->Bool}:∀(f:Nat) (s:List UInt8),letters 6 s->s.length=f->1<=eP fr f s
 | 0,_,_,_=>by simp [eP]
 | f+1,s,ls,hs=>by
  obtain ⟨a,i,_,h2,h3,h4⟩:=mC (fr:=fr) (n:=6) (s:=s) (by rintro rfl;simp at hs) ls
  have hw:=gu h3
  obtain ⟨q1,q2⟩:=r5 (fr:=fr) (f:=f) (gU ls i) (by omega)
  have ih:=Eo (fr:=fr) f _ q1 q2
  have:gY fr f s a=eP fr f (bX fr 6 f (bf s i)):=by unfold gY;rw [h4]
  have:=Ep fr f s h2
  rw [xT]
  omega
theorem xV {n:Nat} {ps:List (Int×Int)} {s:List UInt8} (hn:n<=6) (ht:eO n ps=true) (ls:letters n s) (hs:s.length<=16):
  lh n ps s=.tuple #[I (wW (aG ps) s.length s:Nat),I 0]/\1<=wW (aG ps) s.length s/\wW (aG ps) s.length s<=6^s.length:=by
 have hw:cT n ps [s] 16=0:=xX hn ht (by intro u hu;simp at hu;subst hu;exact ⟨ls,hs⟩)
 have l6:=kh hn ls
 obtain ⟨q1,q2⟩:=qA (ps:=ps) l6
 have e:eP (aG ps) s.length (eT ps s)=wW (aG ps) s.length s:=by
  rw [Er (oM ps) _ q1 q2]
  exact xR (oM ps) _ q1 l6 q2 (uI (oM ps) l6)
 have h1:=Eo (fr:=aG ps) s.length (eT ps s) q1 q2
 have h2:=te (aG ps) s.length (eT ps s)
 rw [e] at h1 h2
 refine ⟨?_,h1,h2⟩
 unfold lh
 rw [if_pos hw,e]
theorem LI {m:Nat} (h:m<=12):6^m<=2176782336:=by
 have:6^m<=6^12:=Nat.pow_le_pow_right (by omega) h
 simpa using this
theorem xH:∀k m n,m+n=k->bw m n<=2^(m+n)
 | k,0,n,_=>by rw [sN];exact Nat.one_le_two_pow
 | k,m+1,0,_=>by rw [sO];exact Nat.one_le_two_pow
 | 0,m+1,n+1,h=>by omega
 | k+1,m+1,n+1,h=>by
  have h1:=xH k m (n+1) (by omega)
  have h2:=xH k (m+1) n (by omega)
  rw [xI]
  have e:2^(m+1+(n+1))=2^(m+(n+1))+2^(m+1+n):=by
   rw [show m+1+(n+1)=(m+n+1)+1 by omega,show m+(n+1)=m+n+1 by omega,show m+1+n=m+n+1 by omega,Nat.pow_succ]
   omega
  omega
theorem D9 {m n:Nat} (h:m+n<=12):bw m n<=4096:=by
 have h1:=xH _ m n rfl
 have h2:2^(m+n)<=2^12:=Nat.pow_le_pow_right (by omega) h
 have:(2:Nat)^12=4096:=by decide
 omega
section
variable {K : Value -> ad -> Prop} {h : ad}
theorem EC {v:Value} {ls:List (List UInt8)} {h:ad} {K:Value->ad->Prop} (hv:SS h v ls) (hl:ls.length<=1000) (hf:ls.flatten.length<=1000) (hk:K (S ls.flatten) h):az Tryd.prog 15 [v] h K:=by
 refine f15 ?_
 refine eM (σ:=Nat) (λi=>[S (ls.take i).flatten,I i]) (λ_=>h) (λi=>i<=ls.length) (λi=>ls.length-i) 0 rfl rfl (by omega) ?_
 intro i hi L hL
 rw [LZ]
 simp only [hv.len,aq,dT,c9]
 refine ⟨λhlt=>?_,λeI=>?_⟩
 ·have fD:i<ls.length:=by omega
  obtain ⟨b,o,g1,g2⟩:=hv.get i fD
  have bT:(ls.take (i+1)).flatten=(ls.take i).flatten++ls[i]:=by
   rw [List.take_succ_eq_append_getElem fD,List.flatten_append];simp
  have dt:ls.flatten=(ls.take (i+1)).flatten++(ls.drop (i+1)).flatten:=by rw [<-List.flatten_append,List.take_append_drop]
  rw [dt,bT] at hf
  simp only [List.length_append] at hf
  simp only [g1,aq,g2]
  rw [ua _ _ (by simp only [maxLen];omega)]
  simp only [aq,cM,dA i (by omega),true_and]
  have:=hL (i+1) (by omega) (by omega)
  rw [bT] at this
  exact this
 ·have:i=ls.length:=by omega
  subst this
  rw [List.take_length,LY]
  exact hk
theorem EH {n:Nat} {qv s7 vl n12:Value} {l:List (List UInt8)} {all i w:Nat} {L:List Value->ad->Prop} (hv:SS h vl l) (hi:i<l.length) (dt:all+l[i].length<=12) (hw:w<=2176782336)
  (hk:xf Tryd.prog K (I n) qv s7 vl n12 (I (w*bw all l[i].length:Nat)) (I all) (I i) L h):
  cE [I w,(.int .i64 (1))] h λL2 xs hx=>xe Tryd.prog K (I n) qv s7 vl n12 (I all) (I i) L L2 xs hx:=by
 refine eM (σ:=Nat) (λj=>[I (w*bw all j:Nat),I (j+1:Nat)]) (λ_=>h) (λj=>j<=l[i].length) (λj=>l[i].length-j) 0 (by rw [sO,Nat.mul_one];rfl) rfl (Nat.zero_le _) ?_
 intro j hj L2 iC
 rw [ME]
 obtain ⟨b,o,u1,u2⟩:=hv.get i hi
 simp only [u1,aq,u2,kW,F6,c9]
 refine ⟨λhle=>?_,λl5=>?_⟩
 ·have dF:j<l[i].length:=by omega
  have s1:=D9 (m:=all) (n:=j) (by omega)
  have b1:w*bw all j<=2176782336*4096:=Nat.mul_le_mul hw s1
  have b2:w*bw all j*(all+j+1)<=2176782336*4096*13:=Nat.mul_le_mul b1 (by omega)
  have w1:IntKind.wrap .i64 ((all:Int)+((j+1:Nat):Int))=((all+j+1:Nat):Int):=by rw [wrap64 (by omega) (by omega)];omega
  have e2:((w*bw all j:Nat):Int)*((all+j+1:Nat):Int)=((w*bw all j*(all+j+1):Nat):Int):=by rw [Int.natCast_mul (w*bw all j)]
  have w2:IntKind.wrap .i64 (((w*bw all j:Nat):Int)*((all+j+1:Nat):Int))=((w*bw all j*(all+j+1):Nat):Int):=by rw [e2,wrap64 (by omega) (by omega)]
  have st:=NU all j
  have e3:w*bw all j*(all+j+1)=w*bw all (j+1)*(j+1):=by rw [Nat.mul_assoc,Nat.mul_assoc,<-st]
  have s3:=D9 (m:=all) (n:=j+1) (by omega)
  have b3:w*bw all (j+1)<=2176782336*4096:=Nat.mul_le_mul hw s3
  have q:au .quo (I (w*bw all j*(all+j+1):Nat)) (I (j+1:Nat))=some (I (w*bw all (j+1):Nat)):=by
   have aV:¬((j+1:Nat):Int)=0:=by omega
   have hq:(((w*bw all j*(all+j+1):Nat):Int)).tdiv ((j+1:Nat):Int)=((w*bw all (j+1):Nat):Int):=by
    rw [e3,Int.natCast_mul]
    exact Int.mul_tdiv_cancel _ aV
   simp only [au,fP,if_neg aV,hq,if_true]
   rw [wrap64 (by omega) (by omega)]
  have w4:IntKind.wrap .i64 (((j+1:Nat):Int)+1)=((j+1+1:Nat):Int):=by rw [wrap64 (by omega) (by omega)];omega
  simp only [cM,w1,aq,zj,w2,q,w4,true_and]
  exact iC (j+1) (by show j+1<=_;omega) (by show l[i].length-(j+1)<l[i].length-j;omega)
 ·have l9:j=l[i].length:=by omega
  rw [l9]
  exact hk
theorem C4 {kk f:Int} {xv:Value} {ns:List Int} (oY:0<=kk) (vt:kk<256) (hx:NS h xv .u8 ns) (J9:U8 ns) (hk:∀h',K (.bool true) h'):az Tryd.prog 4 [.agg #[.int .u8 kk,.int .u16 f],xv] h K:=by
 refine f4 ?_
 have e1:kc 39 h (.agg #[.int .u8 kk,.int .u16 f])=some (pt h.length 0,h++[.arr 39 [.int .u8 kk,.int .u16 f]]):=rfl
 have e2:aw true 2 (h++[.arr 39 [.int .u8 kk,.int .u16 f]]) (pt h.length 0)=some (.agg #[.int .u8 kk,.int .u16 f]):=by simp [aw,aU,cY]
 simp only [T4,e1,ca,e2,aq]
 have x1:EX h (h++[.arr 39 [.int .u8 kk,.int .u16 f]]):=EX.append _ _
 have hx:=hx.mono x1
 generalize h++[ay.arr 39 [.int .u8 kk,.int .u16 f]]=hA at hx⊢
 refine Ey oY vt ?_
 intro n ps hn1 bK ht
 have x2:EX hA (hA++[.arr 62 (bN ps)]):=EX.append _ _
 have hx:=hx.mono x2
 obtain ⟨hg,_,_,Po,_⟩:=Ee ht
 have hps:PS (hA++[.arr 62 (bN ps)]) (sl 62 hA.length 0 ps.length) ps:=PS.sl (by simp [aU])
 simp only [gI,iU,iV,aq]
 generalize sl 62 hA.length 0 ps.length=qv at hps⊢
 generalize hA++[ay.arr 62 (bN ps)]=hB at hx hps⊢
 refine EA (most:=12) hn1 bK (by omega) hx J9 ?_
 intro s ls JT
 have l6:=kh bK ls
 have rM:=oM ps
 have Oh:∀{t:List UInt8},letters n t->t.length<=40->cT n ps [t] 40=0:=λed hl=>xX bK ht (by intro u hu;simp at hu;subst hu;exact ⟨ed,hl⟩)
 refine C7 hps (by omega) (by omega) (λh0=>absurd (Oh ls (by omega)) h0) λ_ v g xg hv=>?_
 simp only [gI,iU,iV,aq]
 have ok:=DA (aG ps) s 6
 have full:=N8 (fr:=aG ps) l6
 have DI:=xm (aG ps) s 6
 generalize bP (aG ps) s 6=l at hv ok full DI⊢
 have heq:bj (aG ps) 6 s l.flatten:=by
  have:=Ei rM ok l.length (Nat.le_refl _) l6
  rw [full,List.take_length] at this
  exact this
 have B3:∀i (hi:i<l.length),letters n l[i]:=λi hi c hc=>by
  obtain ⟨x,_,e,_⟩:=ok.each i hi
  rw [e] at hc
  exact ls c (List.mem_filter.1 hc).1
 have wG:letters n l.flatten:=λc hc=>by
  obtain ⟨p,hp,IZ⟩:=List.mem_flatten.1 hc
  obtain ⟨i,hi,rfl⟩:=List.getElem_of_mem hp
  exact B3 i hi c IZ
 have PC:l.flatten.length=s.length:=AM rM l6 (kh bK wG) heq
 refine EC hv (by omega) (by omega) ?_
 have rN:cT n ps [s,l.flatten] 40=0:=xX bK ht (by intro u hu;simp at hu;rcases hu with rfl | rfl;exact ⟨ls,by omega⟩;exact ⟨wG,by omega⟩)
 refine EB (hps.mono xg) (by omega) (by omega) (by omega) ?_
 have eL:eT ps s=eT ps l.flatten:=(Ia rM l6 (kh bK wG)).1 heq
 have H8:nf n ps s l.flatten=.tuple #[B true,I 0]:=by
  unfold nf
  rw [rN,eL]
  simp
 rw [H8]
 simp only [gI,iU,iV,aq]
 obtain ⟨wv,w1,w6⟩:=xV bK ht ls (by omega)
 refine yu (hps.mono xg) (by omega) (by omega) ?_
 rw [wv]
 have q8:au .neq (I 0) (.int .i64 0)=some (B false):=rfl
 simp only [gI,iU,iV,aq,q8]
 rw [Mr]
 simp only [gB,q8,aq]
 rw [Ms]
 simp only [gi,aq]
 rw [Mt]
 simp only [gB,q8,aq]
 rw [Mu]
 simp only [gi,aq]
 rw [Mv]
 simp only [gB,s8,Bool.not_true,aq]
 rw [Mw]
 simp only [gi,aq]
 rw [Mx]
 simp only [gB]
 refine C9 ?_
 simp only [s8,Bool.not_true,aq]
 rw [My]
 simp only [gi,aq,fa]
 have N7:bz s l 0=[]:=by unfold bz de;simp
 have Ek:∀i,letters n (bz s l i)/\(bz s l i).length<=12:=λi=>⟨λc hc=>ls c (List.mem_filter.1 hc).1,Nat.le_trans (List.length_filter_le _ _) JT⟩
 refine eM (σ:=Nat) (λi=>[I (wW (aG ps) (bz s l i).length (bz s l i):Nat),I (bz s l i).length,I i]) (λ_=>g) (λi=>i<=l.length) (λi=>l.length-i) 0 (by rw [N7];rfl) rfl (Nat.zero_le _) ?_
 intro i hi L hL
 rw [Mz]
 simp only [hv.len,aq,dT,c9]
 refine ⟨λhlt=>?_,λeI=>?_⟩
 rotate_left
 ·have vq:i=l.length:=by omega
  subst vq
  rw [full,MI]
  simp only [mV,decide_true,aq]
  rw [MJ]
  simp only [tk,kW,mV,decide_true,aq]
  rw [MK]
  simp only [rW,aq]
  exact hk _
 have fD:i<l.length:=by omega
 obtain ⟨b,o,u1,u2⟩:=hv.get i fD
 obtain ⟨m1,m2,_⟩:=Ej rM ok fD l6
 obtain ⟨a1,a2⟩:=Ek (i+1)
 obtain ⟨c1,c2⟩:=Ek i
 have hpl:l[i].length<=12:=by omega
 simp only [u1,aq,u2]
 obtain ⟨wp,PO,Oi⟩:=xV bK ht (B3 i fD) (by omega)
 obtain ⟨_,PQ,Ol⟩:=xV bK ht c1 (by omega)
 refine yu (hps.mono xg) (by omega) (by omega) ?_
 rw [wp]
 simp only [gI,iU,iV,aq,q8]
 rw [MA]
 simp only [gB,dT,aq]
 rw [dp (show ¬((wW (aG ps) l[i].length l[i]:Nat):Int)<1 by omega),MB]
 simp only [gi,aq]
 rw [MC]
 simp only [gB,u1,aq,u2,kW,qH]
 rw [dp (show ¬(l[i].length:Int)>12 by omega),MD]
 simp only [gi,aq,fa]
 have Pv:wW (aG ps) (bz s l i).length (bz s l i)*wW (aG ps) l[i].length l[i]<=6^((bz s l i).length+l[i].length):=by
  rw [Nat.pow_add]
  exact Nat.mul_le_mul Ol Oi
 have Ps:=LI (m:=(bz s l i).length+l[i].length) (by omega)
 have wm:IntKind.wrap .i64 (((wW (aG ps) (bz s l i).length (bz s l i):Nat):Int)*((wW (aG ps) l[i].length l[i]:Nat):Int))=((wW (aG ps) (bz s l i).length (bz s l i)*wW (aG ps) l[i].length l[i]:Nat):Int):=by
  rw [<-Int.natCast_mul,wrap64 (by omega) (by omega)]
 simp only [zj,wm,aq]
 refine EH (w:=wW (aG ps) (bz s l i).length (bz s l i)*wW (aG ps) l[i].length l[i]) hv fD (by omega) (by omega) ?_
 rw [MF]
 have wa:IntKind.wrap .i64 (((bz s l i).length:Int)+(l[i].length:Int))=((bz s l (i+1)).length:Int):=by rw [wrap64 (by omega) (by omega)];omega
 simp only [u1,aq,u2,kW,cM,wa]
 rw [MH]
 simp only [cM,aq,dA i (by omega),true_and]
 have:=hL (i+1) (by show i+1<=_;omega) (by show l.length-(i+1)<l.length-i;omega)
 rw [m1,Nat.mul_comm (bw _ _)] at this
 exact this
end
end
end Go.Proofs.YtlpdhfdpnakgdaaDoor
