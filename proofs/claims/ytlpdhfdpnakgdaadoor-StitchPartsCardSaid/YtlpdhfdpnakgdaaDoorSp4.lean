/-
  Part 4 of the texts behind a statement of this seat: Sim22, SdEvH, SdLv, Pt5.
-/
import Derived.Test.YtlpdhfdpnakgdaaDoorProg
import Derived.KernelRfl
import Derived.Test.YtlpdhfdpnakgdaaDoorSp3
open Bool (and_eq_true)
open Nat (eq_of_beq_eq_true)
namespace Go.Sim
section
abbrev pg:=Option (Exit×(Nat->Value)×ad)
abbrev gU:=Fn->List Value->ad->Option (Value×ad)
def rX:Value->Value->Bool
 | .int k a,.int k' b=>decide (k=k')&&decide (a=b)
 | .bool a,.bool b=>a==b
 | .string s,.string t=>decide (bytes s=bytes t)
 | .pointer (some ⟨i,o,none⟩),.pointer (some ⟨j,p,none⟩)=>Nat.beq i j&&Nat.beq o p
 | .slice none a b,.slice none c d=>Nat.beq a c&&Nat.beq b d
 | .slice (some ⟨i,o,some e⟩) a b,.slice (some ⟨j,p,some e'⟩) c d=>Nat.beq i j&&Nat.beq o p&&Nat.beq e e'&&Nat.beq a c&&Nat.beq b d
 | _,_=>false
theorem CB {a b:Value} (h:rX a b=true):a=b:=by
 unfold rX at h
 split at h
 ·simp at h;rw [h.1,h.2]
 ·simp at h;rw [h]
 ·rename_i s t
  simp at h
  have:=mP s
  rw [h,mP] at this
  rw [this]
 ·simp only [and_eq_true] at h
  rw [eq_of_beq_eq_true h.1,eq_of_beq_eq_true h.2]
 ·simp only [and_eq_true] at h
  rw [eq_of_beq_eq_true h.1,eq_of_beq_eq_true h.2]
 ·simp only [and_eq_true] at h
  obtain ⟨⟨⟨⟨h1,h2⟩,h3⟩,h4⟩,h5⟩:=h
  rw [eq_of_beq_eq_true h1,eq_of_beq_eq_true h2,eq_of_beq_eq_true h3,eq_of_beq_eq_true h4,eq_of_beq_eq_true h5]
 ·cases h
def rY:List Value->List Value->Bool
 | [],[]=>true
 | x::xs,y::ys=>rX x y&&rY xs ys
 | _,_=>false
theorem CC:∀{xs ys:List Value},rY xs ys=true->xs=ys
 | [],[],_=>rfl
 | x::xs,y::ys,h=>by
  simp only [rY,and_eq_true] at h
  rw [CB h.1,CC h.2]
 | [],_::_,h=>by cases h
 | _::_,[],h=>by cases h
def rW:Value->Value->Bool
 | .agg xs,.agg ys=>rY xs.toList ys.toList
 | a,b=>rX a b
theorem CD {a b:Value} (h:rW a b=true):a=b:=by
 unfold rW at h
 split at h
 ·rw [Array.ext' (CC h)]
 ·exact CB h
def iS (P:Program) (call:gU) (io:cN) (f:Nat->Value) (h:ad):Option (Value×ad):=
 match io with
 | .p o=>match cP o (ev f) with | some v=>some (v,h) | none=>none
 | .l o=>match bM o (ev f) h with | some v=>some (v,h) | none=>none
 | .e o=>bU o (ev f) h
 | .call g args=>call (.func g) (args.map (ev f)) h
 | .ed x args=>
  match ev f x with
  | .func (.func g) first cap=>if gY P g=true then call (.func g) (first.toList++args.map (ev f)++cap.toList) h else none
  | .func (.yield i) first cap=>if first.size=0/\cap.size=0 then call (.yield i) (args.map (ev f)) h else none
  | _=>none
structure pf (P:Program) (call:gU):Prop where
 fn:∀F args h v h',call (.func F) args h=some (v,h')->l7 P F args h v h'
 yi:∀i args h v h',call (.yield i) args h=some (v,h')->sd P i args h v h'
section
variable {P : Program} {call : gU} (HC : pf P call)
include HC
theorem oO {io:cN} {f:Nat->Value} {h h':ad} {v:Value} {K:Value->ad->Prop} (he:iS P call io f h=some (v,h')) (hk:K v h'):aR P io f h K:=by
 cases io with
 | p o=>
  simp only [iS] at he
  split at he
  ·rename_i u hu
   simp at he
   obtain ⟨rfl,rfl⟩:=he
   simp [aR,bK,hu,hk]
  ·cases he
 | l o=>
  simp only [iS] at he
  split at he
  ·rename_i u hu
   simp at he
   obtain ⟨rfl,rfl⟩:=he
   simp [aR,bK,hu,hk]
  ·cases he
 | e o=>
  simp only [iS] at he
  simp [aR,fe,he,hk]
 | call g args=>exact ⟨v,h',HC.fn _ _ _ _ _ he,hk⟩
 | ed x args=>
  simp only [iS] at he
  simp only [aR,iF]
  split at he
  ·rename_i g first cap hx
   rw [hx]
   split at he
   ·rename_i eL
    exact ⟨eL,v,h',HC.fn _ _ _ _ _ he,hk⟩
   ·cases he
  ·rename_i i first cap hx
   rw [hx]
   split at he
   ·rename_i hs
    exact ⟨⟨Array.eq_empty_of_size_eq_zero hs.1,Array.eq_empty_of_size_eq_zero hs.2⟩,v,h',HC.yi _ _ _ _ _ he,hk⟩
   ·cases he
  ·cases he
end
def mo (P:Program) (call:gU):List ey->(Nat->Value)->ad->Option ((Nat->Value)×ad)
 | [],f,h=>some (f,h)
 | o::os,f,h=>match iS P call o.op f h with | some (v,h')=>mo P call os (aX f o.dst v) h' | none=>none
def vk (P:Program) (call:gU) (g:Option (Nat×Bool)) (l:List ey) (f:Nat->Value) (h:ad):Option ((Nat->Value)×ad):=
 match g with
 | none=>mo P call l f h
 | some (s,b)=>match f s with
  | .bool c=>if (c==b)=true then mo P call l f h else some (pb l f,h)
  | .complex _ _ _=>none
  | _=>some (pb l f,h)
def oR (pre:Nat) (lo:fU) (f:Nat->Value) (v:Value):List (Nat×ad)->Bool
 | []=>true
 | (e,H)::r=>if pre.testBit e=true then oR pre lo f v r else (match bM lo (ev f) H with | some u=>rW u v | none=>false)&&oR pre lo f v r
def kK (pre:Nat) (H:ad):bn->Bool
 | []=>true
 | (j,lo,f,v)::r=>if pre.testBit j=true then kK pre H r else (match bM lo (ev f) H with | some u=>rW u v | none=>false)&&kK pre H r
theorem vR {pre:Nat} {lo:fU} {f:Nat->Value} {v:Value}:∀{l:List (Nat×ad)},oR pre lo f v l=true->jS pre lo f v l
 | [],_=>trivial
 | (e,H)::r,h=>by
  simp only [oR] at h
  simp only [jS]
  split at h
  ·rename_i hb;rw [if_pos hb];exact vR h
  ·rename_i hb
   rw [if_neg hb]
   simp only [and_eq_true] at h
   refine ⟨?_,vR h.2⟩
   have h1:=h.1
   split at h1
   ·rename_i u hu;rw [hu,CD h1]
   ·cases h1
theorem kL {pre:Nat} {H:ad}:∀{l:bn},kK pre H l=true->ee pre H l
 | [],_=>trivial
 | (j,lo,f,v)::r,h=>by
  simp only [kK] at h
  simp only [ee]
  split at h
  ·rename_i hb;rw [if_pos hb];exact kL h
  ·rename_i hb
   rw [if_neg hb]
   simp only [and_eq_true] at h
   refine ⟨?_,kL h.2⟩
   have h1:=h.1
   split at h1
   ·rename_i u hu;rw [hu,CD h1]
   ·cases h1
abbrev wX:=Option (List (Nat×ad)×bn×(Nat->Value)×ad)
def jl (P:Program) (call:gU):List dA->Nat->List (Nat×ad)->bn->(Nat->Value)->ad->wX
 | [],_,ah,ag,f,h=>some (ah,ag,f,h)
 | o::os,j,ah,ag,f,h=>
  match iS P call o.op f h with
  | some (v,h')=>
   match o.op with
   | .p _=>jl P call os (j+1) ah ag (aX f o.dst v) h'
   | .l lo=>if oR o.pre lo f v ah=true then jl P call os (j+1) ah (ag++[(j,lo,f,v)]) (aX f o.dst v) h' else none
   | .e (.fl _)=>
    match fu h' v with
    | some u=>if kK o.pre h' ag=true then jl P call os (j+1) (ah++[(j,h)]) (ag++[(j,.obj (.const v),f,u)]) (aX f o.dst v) h' else none
    | none=>none
   | _=>if kK o.pre h' ag=true then jl P call os (j+1) (ah++[(j,h)]) ag (aX f o.dst v) h' else none
  | none=>none
def mn:List dA->Nat->List (Nat×ad)->bn->(Nat->Value)->ad->wX
 | [],_,ah,ag,f,h=>some (ah,ag,f,h)
 | o::os,j,ah,ag,f,h=>
  match o.op.aV with
  | false=>mn os (j+1) ah ag (aX f o.dst undef) h
  | true=>if kK o.pre h ag=true then mn os (j+1) (ah++[(j,h)]) ag (aX f o.dst undef) h else none
def kM (P:Program) (call:gU):List (Option (Nat×Bool)×List dA)->Nat->List (Nat×ad)->bn->(Nat->Value)->ad->Option ((Nat->Value)×ad)
 | [],_,_,_,f,h=>some (f,h)
 | (none,l)::gs,j,ah,ag,f,h=>
  match jl P call l j ah ag f h with
  | some (ah,ag,f,h)=>kM P call gs (j+l.length) ah ag f h
  | none=>none
 | (some (s,b),l)::gs,j,ah,ag,f,h=>
  match f s with
  | .bool c=>
   match (if (c==b)=true then jl P call l j ah ag f h else mn l j ah ag f h) with
   | some (ah,ag,f,h)=>kM P call gs (j+l.length) ah ag f h
   | none=>none
  | _=>none
section
variable {P : Program} {call : gU} (HC : pf P call)
include HC in
theorem tM:∀{l:List ey} {f f':Nat->Value} {h h':ad} {K:(Nat->Value)->ad->Prop},mo P call l f h=some (f',h')->K f' h'->j1 P l K f h
 | [],f,f',h,h',K,he,hk=>by simp [mo] at he;obtain ⟨rfl,rfl⟩:=he;exact hk
 | o::os,f,f',h,h',K,he,hk=>by
  simp only [mo] at he
  split at he
  ·rename_i v h1 ho
   exact oO HC ho (tM he hk)
  ·cases he
include HC in
theorem Jx {g:Option (Nat×Bool)} {l:List ey} {f f':Nat->Value} {h h':ad} {K:(Nat->Value)->ad->Prop} (he:vk P call g l f h=some (f',h')) (hk:K f' h'):jF P g l K f h:=by
 cases g with
 | none=>exact tM HC he hk
 | some sb=>
  obtain ⟨s,b⟩:=sb
  simp only [vk] at he
  simp only [jF,dI]
  split at he
  ·rename_i c hc
   rw [hc]
   simp only
   split at he
   ·rename_i hb;rw [if_pos hb];exact tM HC he hk
   ·rename_i hb;rw [if_neg hb];simp at he;obtain ⟨rfl,rfl⟩:=he;exact hk
  ·cases he
  ·rename_i h1 h2
   simp at he
   obtain ⟨rfl,rfl⟩:=he
   split
   ·rename_i c hc;exact absurd hc (h1 c)
   ·rename_i a b c hc;exact absurd hc (h2 a b c)
   ·exact hk
include HC in
theorem jY:∀{l:List dA} {j:Nat} {ah fW:List (Nat×ad)} {ag fN:bn} {f f':Nat->Value} {h h':ad} {K:List (Nat×ad)->bn->(Nat->Value)->ad->Prop},
  jl P call l j ah ag f h=some (fW,fN,f',h')->K fW fN f' h'->fF P l j ah ag K f h
 | [],j,ah,fW,ag,fN,f,f',h,h',K,he,hk=>by simp [jl] at he;obtain ⟨rfl,rfl,rfl,rfl⟩:=he;exact hk
 | o::os,j,ah,fW,ag,fN,f,f',h,h',K,he,hk=>by
  simp only [jl] at he
  simp only [fF]
  split at he
  ·rename_i v h1 ho
   cases aQ:o.op with
   | p po=>
    rw [aQ] at ho he
    simp only at he
    have:=oO (K:=λv h'=>fF P os (j+1) ah ag K (aX f o.dst v) h') HC ho (jY he hk)
    simp only [dS]
    simp only [aR] at this
    simp only [iS] at ho
    split at ho
    ·rename_i u hu
     simp at ho
     obtain ⟨rfl,rfl⟩:=ho
     exact this
    ·cases ho
   | l lo=>
    rw [aQ] at ho he
    simp only at he
    split at he
    ·rename_i hp
     simp only [iS] at ho
     split at ho
     ·rename_i u hu
      simp at ho
      obtain ⟨rfl,rfl⟩:=ho
      simp only [dS,bK,hu]
      exact ⟨vR hp,jY he hk⟩
     ·cases ho
    ·cases he
   | e eo=>
    cases eo with
    | fl a=>
     rw [aQ] at ho he
     simp only at he
     split at he
     ·rename_i u hu
      split at he
      ·rename_i hp
       simp only [iS] at ho
       simp only [dS,ho,fe,hu,bK]
       exact ⟨kL hp,jY he hk⟩
      ·cases he
     ·cases he
    | _=>
    rw [aQ] at ho he
    simp only at he
    split at he
    ·rename_i hp
     exact oO (io:=.e _) (K:=λv h'=>ee o.pre h' ag/\fF P os (j+1) (ah++[(j,h)]) ag K (aX f o.dst v) h') HC ho ⟨kL hp,jY he hk⟩
    ·cases he
   | call g args=>
    rw [aQ] at ho he
    simp only at he
    split at he
    ·rename_i hp
     exact oO (io:=.call g args) (K:=λv h'=>ee o.pre h' ag/\fF P os (j+1) (ah++[(j,h)]) ag K (aX f o.dst v) h') HC ho ⟨kL hp,jY he hk⟩
    ·cases he
   | ed x args=>
    rw [aQ] at ho he
    simp only at he
    split at he
    ·rename_i hp
     exact oO (io:=.ed x args) (K:=λv h'=>ee o.pre h' ag/\fF P os (j+1) (ah++[(j,h)]) ag K (aX f o.dst v) h') HC ho ⟨kL hp,jY he hk⟩
    ·cases he
  ·cases he
theorem tJ:∀{l:List dA} {j:Nat} {ah fW:List (Nat×ad)} {ag fN:bn} {f f':Nat->Value} {h h':ad} {K:List (Nat×ad)->bn->(Nat->Value)->ad->Prop},
  mn l j ah ag f h=some (fW,fN,f',h')->K fW fN f' h'->jm l j ah ag K f h
 | [],j,ah,fW,ag,fN,f,f',h,h',K,he,hk=>by simp [mn] at he;obtain ⟨rfl,rfl,rfl,rfl⟩:=he;exact hk
 | o::os,j,ah,fW,ag,fN,f,f',h,h',K,he,hk=>by
  simp only [mn] at he
  simp only [jm,jV]
  cases ho:o.op.aV with
  | false=>rw [ho] at he;exact tJ he hk
  | true=>
   rw [ho] at he
   simp only at he
   split at he
   ·rename_i hp;exact ⟨kL hp,tJ he hk⟩
   ·cases he
include HC in
theorem qz:∀{gs:List (Option (Nat×Bool)×List dA)} {j:Nat} {ah:List (Nat×ad)} {ag:bn} {f f':Nat->Value} {h h':ad} {K:(Nat->Value)->ad->Prop},
  kM P call gs j ah ag f h=some (f',h')->K f' h'->fE P gs j ah ag K f h
 | [],j,ah,ag,f,f',h,h',K,he,hk=>by simp [kM] at he;obtain ⟨rfl,rfl⟩:=he;exact hk
 | (none,l)::gs,j,ah,ag,f,f',h,h',K,he,hk=>by
  simp only [kM] at he
  simp only [fE]
  split at he
  ·rename_i hs ls f1 h1 hr
   exact jY HC hr (qz he hk)
  ·cases he
 | (some (s,b),l)::gs,j,ah,ag,f,f',h,h',K,he,hk=>by
  simp only [kM] at he
  simp only [fE,dI]
  split at he
  ·rename_i c hc
   rw [hc]
   simp only
   split at he
   ·rename_i hs ls f1 h1 hr
    split at hr
    ·rename_i hb;rw [if_pos hb];exact jY HC hr (qz he hk)
    ·rename_i hb;rw [if_neg hb];exact tJ hr (qz he hk)
   ·cases he
  ·cases he
end
def lD (body:(Nat->Value)->ad->pg) (ls:List Nat):Nat->List Value->ad->pg
 | 0,_,_=>none
 | n+1,xs,h=>match body (ep ls xs) h with
  | some (.normal,f',h')=>lD body ls n (ls.map f') h'
  | r=>r
def u0 (h:ad) (i:Nat):Bool:=match h[i]? with | some (.loop _ _ _)=>true | _=>false
def qZ (h:ad) (i:Nat):Bool:=match h[i]? with | some .dead=>true | _=>false
noncomputable def ei (P:Program) (call:gU) (n:Nat) (c:bW):(Nat->Value)->ad->pg:=
 bW.rec (motive:=λ_=>(Nat->Value)->ad->pg)
  (λf h=>some (.normal,f,h))
  (λl f h=>match kM P call l 0 [] [] f h with | some (f',h')=>some (.normal,f',h') | none=>none)
  (λg l f h=>match vk P call g l f h with | some (f',h')=>some (.normal,f',h') | none=>none)
  (λ_ _ ea eb f h=>match ea f h with | some (.normal,f',h')=>eb f' h' | r=>r)
  (λls _ ec f h=>ec (ep ls (ls.map f)) h)
  (λc _ _ ea eb f h=>match ev f c with | .bool true=>ea f h | .bool false=>eb f h | _=>none)
  (λid _ ec f h=>match ec f h with | some (.exit i,f',h')=>if i=id then some (.normal,f',h') else some (.exit i,f',h') | r=>r)
  (λks ls _ ec f h=>match ks with | []=>lD ec ls n (ls.map f) h | _=>none)
  (λid f h=>some (.exit id,f,h))
  (λf h=>some (.ret,f,h))
  (λg ls c f h=>match ev f g with
   | .func (.func F) first cap=>
    if gY P F=true then
     match call (.func F) (first.toList++[.func (.yield h.length) #[] #[]]++cap.toList) (h++[.loop c ls (ls.map f)]) with
     | some (_,h')=>if u0 h' h.length=true then some (.normal,f,h'.set h.length .dead) else none
     | none=>none
    else none
   | _=>none) c
theorem Jf {p:Nat->Prop}:∀n,p n->∃m,p m/\∀k,p k->m<=k:=by
 intro n
 induction n using Nat.strongRecOn with
 | _ n ih=>
  intro hn
  by_cases h:∃m,m<n/\p m
  ·obtain ⟨m,h1,h2⟩:=h;exact ih m h1 h2
  ·exact ⟨n,hn,λk hk=>Nat.le_of_not_lt λhlt=>h ⟨k,hlt,hk⟩⟩
theorem IP {h:ad} {i:Nat} (hl:u0 h i=true):∃c ls vs,h[i]?=some (.loop c ls vs):=by
 unfold u0 at hl
 split at hl
 ·rename_i c ls vs hh;exact ⟨c,ls,vs,hh⟩
 ·cases hl
theorem Ad {h:ad} {i:Nat} (hl:qZ h i=true):h[i]?=some .dead:=by
 unfold qZ at hl
 split at hl
 ·assumption
 ·cases hl
theorem tq {P:Program} {call:gU} (HC:pf P call) {n:Nat} {c:bW}:∀{f f':Nat->Value} {h h':ad} {e:Exit} {K:av},ei P call n c f h=some (e,f',h')->K e f' h'->cM P c K f h:=by
 induction c with
 | skip=>intro f f' h h' e K he hk;simp [ei] at he;obtain ⟨rfl,rfl,rfl⟩:=he;exact hk
 | tl l=>
  intro f f' h h' e K he hk
  simp only [ei] at he
  split at he
  ·rename_i f1 h1 hg
   simp at he
   obtain ⟨rfl,rfl,rfl⟩:=he
   exact qz HC hg hk
  ·cases he
 | ops g l=>
  intro f f' h h' e K he hk
  simp only [ei] at he
  split at he
  ·rename_i f1 h1 hg
   simp at he
   obtain ⟨rfl,rfl,rfl⟩:=he
   exact Jx HC hg hk
  ·cases he
 | seq a b kj lz=>
  intro f f' h h' e K he hk
  have cW:(match ei P call n a f h with | some (.normal,f',h')=>ei P call n b f' h' | r=>r)=some (e,f',h'):=he
  show cM P a (aG (cM P b K) K) f h
  split at cW
  ·rename_i f1 h1 h2
   exact kj h2 (lz cW hk)
  ·rename_i h1
   refine kj cW ?_
   cases e <;> first | exact hk | exact absurd cW (h1 _ _)
 | cut ls c ih=>intro f f' h h' e K he hk;exact ih (K:=K) he hk
 | cond c a b kj lz=>
  intro f f' h h' e K he hk
  have cW:(match ev f c with | .bool true=>ei P call n a f h | .bool false=>ei P call n b f h | _=>none)=some (e,f',h'):=he
  rw [Ai]
  split at cW
  ·rename_i hc;rw [hc];exact kj cW hk
  ·rename_i hc;rw [hc];exact lz cW hk
  ·cases cW
 | block id c ih=>
  intro f f' h h' e K he hk
  have cW:(match ei P call n c f h with | some (.exit i,f',h')=>if i=id then some (.normal,f',h') else some (.exit i,f',h') | r=>r)=some (e,f',h'):=he
  show cM P c (bz id K) f h
  split at cW
  ·rename_i i f1 h1 h2
   refine ih h2 ?_
   simp only [bz]
   split at cW
   ·rename_i gI;simp at cW;obtain ⟨rfl,rfl,rfl⟩:=cW;rw [if_pos gI];exact hk
   ·rename_i gI;simp at cW;obtain ⟨rfl,rfl,rfl⟩:=cW;rw [if_neg gI];exact hk
  ·rename_i h1
   refine ih cW ?_
   cases e with
   | exit i=>exact absurd cW (h1 _ _ _)
   | _=>exact hk
 | loop ks ls c ih=>
  intro f f' h h' e K he hk
  cases ks with
  | cons k ks=>cases he
  | nil=>
   have cW:lD (ei P call n c) ls n (ls.map f) h=some (e,f',h'):=he
   show oH (ls.map f) h λL xs hx=>cM P c (aG (λf' aP=>([]:List Nat).map f'=[].map f/\L (ls.map f') aP) K) (ep ([]++ls) (([]:List Nat).map f++xs)) hx
   let J:List Value->ad->Prop:=λys hy=>∃m,lD (ei P call n c) ls m ys hy=some (e,f',h')
   have least:∀ys hy,J ys hy->∃m,lD (ei P call n c) ls m ys hy=some (e,f',h')/\∀k,lD (ei P call n c) ls k ys hy=some (e,f',h')->m<=k:=λys hy ⟨m,hm⟩=>Jf m hm
   classical
   let μ:List Value->ad->Nat:=λys hy=>if hJ:J ys hy then Classical.choose (least ys hy hJ) else 0
   refine ⟨J,μ,⟨n,cW⟩,?_⟩
   intro xs hx hJ
   have ot:=Classical.choose_spec (least xs hx hJ)
   have Ix:μ xs hx=Classical.choose (least xs hx hJ):=dif_pos hJ
   rw [<-Ix] at ot
   obtain ⟨h1,h2⟩:=ot
   generalize μ xs hx=m at h1 h2
   cases m with
   | zero=>cases h1
   | succ m=>
    simp only [lD] at h1
    simp only [List.map_nil,List.nil_append]
    split at h1
    ·rename_i f1 g1 hb
     refine ih hb ?_
     refine ⟨trivial,⟨m,h1⟩,?_⟩
     have mq:J (ls.map f1) g1:=⟨m,h1⟩
     have eX:=Classical.choose_spec (least _ _ mq)
     have Iy:μ (ls.map f1) g1=Classical.choose (least _ _ mq):=dif_pos mq
     rw [Iy]
     exact Nat.lt_succ_of_le (eX.2 m h1)
    ·rename_i hn
     refine ih h1 ?_
     cases e with
     | normal=>exact absurd h1 (hn _ _)
     | _=>exact hk
 | exit id=>intro f f' h h' e K he hk;simp [ei] at he;obtain ⟨rfl,rfl,rfl⟩:=he;exact hk
 | ret=>intro f f' h h' e K he hk;simp [ei] at he;obtain ⟨rfl,rfl,rfl⟩:=he;exact hk
 | range g ls c=>
  intro f f' h h' e K he hk
  simp only [ei] at he
  show ko P (ev f g) ls (ls.map f) c h (K .normal f)
  unfold ko
  split at he
  ·rename_i F first cap hg
   rw [hg]
   split at he
   ·rename_i eL
    split at he
    ·rename_i v h1 hc
     split at he
     ·rename_i hl
      simp at he
      obtain ⟨rfl,rfl,rfl⟩:=he
      exact ⟨eL,v,h1,HC.fn _ _ _ _ _ hc,IP hl,hk⟩
     ·cases he
    ·cases he
   ·cases he
  ·cases he
noncomputable def jf (P:Program) (H:FuncId->Hints) (lf:Nat):Nat->gU
 | 0=>λ_ _ _=>none
 | n+1=>λt args h=>
  match t with
  | .func F=>
   match cz P F (H F) with
   | some (N,ic,rs)=>
    if args.length<=N then
     match ei P (jf P H lf n) lf ic (bY args) h with
     | some (.normal,f,h')=>match fK rs f h' with | some vs=>some (pack vs,h') | none=>none
     | some (.ret,f,h')=>match fK rs f h' with | some vs=>some (pack vs,h') | none=>none
     | _=>none
    else none
   | none=>none
  | .yield i=>
   match h[i]? with
   | some (.loop c ls vs)=>
    match cT P c.N c.dF [],cT P c.N c.body [] with
    | some (ia,_),some (ib,_)=>
     if args.length=c.ps.size/\c.ps.all (·<c.N)=true/\ek c.dF=true/\ek c.body=true then
      match ei P (jf P H lf n) lf ia (mW c.ps.toList args (ep ls vs)) (h.set i .dead) with
      | some (.normal,f1,h1)=>
       if qZ h1 i=true then
        match ei P (jf P H lf n) lf ib f1 h1 with
        | some (.normal,_,h2)=>if qZ h2 i=true then some (.bool true,h2.set i (.loop c ls vs)) else none
        | _=>none
       else none
      | _=>none
     else none
    | _,_=>none
   | _=>none
  | _=>none
theorem rG:∀{rs:List dY} {f:Nat->Value} {h:ad} {vs:List Value} {k:List Value->Prop},fK rs f h=some vs->k vs->jL rs f h k
 | [],f,h,vs,k,he,hk=>by simp [fK] at he;subst he;exact hk
 | .tmp t::rs,f,h,vs,k,he,hk=>by
  simp only [fK,kl] at he
  split at he
  ·rename_i v dm h1 h2
   simp only [Option.some.injEq] at h1 he
   subst h1
   subst he
   exact rG (rs:=rs) h2 hk
  ·cases he
 | .cell agg n a::rs,f,h,vs,k,he,hk=>by
  simp only [fK,kl] at he
  split at he
  ·rename_i v dm h1 h2
   simp at he
   subst he
   simp only [jL,bK,h1]
   exact rG h2 hk
  ·cases he
theorem zd {P:Program} {H:FuncId->Hints} {lf:Nat}:∀n,pf P (jf P H lf n)
 | 0=>by constructor <;> (intro _ _ _ _ _ h;cases h)
 | n+1=>by
  have HC:=zd (P:=P) (H:=H) (lf:=lf) n
  constructor
  ·intro F args h v h' he
   simp only [jf] at he
   split at he
   ·rename_i N ic rs hc
    split at he
    ·rename_i ha
     have key:∀{e f h1 vs},(e=Exit.normal∨e=Exit.ret)->ei P (jf P H lf n) lf ic (bY args) h=some (e,f,h1)->fK rs f h1=some vs->l7 P F args h (pack vs) h1:=by
      intro e f h1 vs tV nS hr
      obtain ⟨u,g,q1,rfl,rfl⟩:=zV hc ha (K:=λu g=>u=pack vs/\g=h1) (tq HC nS (by
       rcases tV with rfl | rfl
       ·exact rG hr ⟨rfl,rfl⟩
       ·exact rG hr ⟨rfl,rfl⟩))
      exact q1
     split at he
     ·rename_i f h1 nS
      split at he
      ·rename_i vs hr
       simp at he
       obtain ⟨rfl,rfl⟩:=he
       exact key (.inl rfl) nS hr
      ·cases he
     ·rename_i f h1 nS
      split at he
      ·rename_i vs hr
       simp at he
       obtain ⟨rfl,rfl⟩:=he
       exact key (.inr rfl) nS hr
      ·cases he
     ·cases he
    ·cases he
   ·cases he
  ·intro i args h v h' he
   simp only [jf] at he
   split at he
   ·rename_i c ls vs hi
    split at he
    ·rename_i ia _ ib _ ha hb
     split at he
     ·rename_i G0
      obtain ⟨c1,c2,c3,c4⟩:=G0
      split at he
      ·rename_i f1 h1 e1
       split at he
       ·rename_i d1
        split at he
        ·rename_i f2 h2 e2
         split at he
         ·rename_i d2
          simp at he
          obtain ⟨rfl,rfl⟩:=he
          obtain ⟨u,g,q1,rfl,rfl⟩:=Me (K:=λu g=>u=.bool true/\g=h2.set i (.loop c ls vs)) hi c1 c2 ha hb c3 c4
           (tq HC e1 ⟨rfl,Ad d1,tq HC e2 ⟨rfl,Ad d2,rfl,rfl⟩⟩)
          exact q1
         ·cases he
        ·cases he
       ·cases he
      ·cases he
     ·cases he
    ·cases he
   ·cases he
theorem Gl {P:Program} (H:FuncId->Hints) (lf n:Nat) {F:FuncId} {args:List Value} {v:Value} (h:(jf P H lf n (.func F) args []).map Prod.fst=some v):∃h',l7 P F args [] v h':=by
 simp only [Option.map_eq_some_iff] at h
 obtain ⟨⟨u,h'⟩,h1,h2⟩:=h
 simp at h2
 subst h2
 exact ⟨h',(zd n).fn _ _ _ _ _ h1⟩
end
end Go.Sim
namespace Go.Proofs.YtlpdhfdpnakgdaaDoor
open Go.Sim
section
def ze:FuncId->Hints
 | 9=>[[],[],[],[],[],[],[3,4,5,6,7,8,9,35],[4,5,6,7,8,9,35,37],[4,5,6,7,8,9,39],[5,6,7,8,9,39,41],[5,6,7,8,9,43],[6,7,8,9,43,45],[6,7,8,9,47],[7,8,9,47,49],[7,8,9,51],[8,9,51,53],[8,9,55],[9,55,57],[9,59],[59,61],[]]
 | 10=>[[],[],[],[],[],[],[0,1,5],[],[],[],[],[],[],[]]
 | 17=>[[],[],[],[],[],[],[],[0,2,3,10,25,26,27],[],[],[],[],[],[],[0,3,10],[],[],[0,10,36,37,38],[],[],[],[],[],[0,10,15,36,37,38,43,44],[],[],[],[0,10,15,16,36,37,38,43,44,51],[0,10,15,36,37,38,43,44,51,58],[],[],[],[0,10,36,37,38],[10],[]]
 | 21=>[[],[]]
 | 27=>[[],[],[],[],[],[],[],[10],[],[],[],[],[13,51,52,53],[],[],[],[],[],[13],[]]
 | 28=>[[],[],[],[],[],[]]
 | 29=>[[],[],[2,8,23],[2,8,23,25],[2,8,27],[2,8,27,29],[],[],[],[],[],[],[2,8,10,11],[],[],[],[],[],[2,8,10,11,12,40,41,42],[],[],[],[2,8,10,11,12,13,14,40,41,42,61],[2,8,10,11,12,13,14,40,41,42,61,64],[],[],[2,8,10,11,12,40,41,42],[2,8,10,11,12],[2,8,10,11],[2,10],[]]
 | 30=>[[],[],[],[],[],[],[]]
 | 33=>[[],[],[],[0,1,5],[],[],[],[],[0,1,5,14,15],[],[],[],[],[],[],[],[],[5],[]]
 | 35=>[[],[],[],[0,1,2,9,10],[],[],[],[],[],[],[],[],[],[],[]]
 | 36=>[[],[]]
 | 37=>[[],[0,1,11],[0,1,11,13],[0,1,15],[0,1,15,18],[],[],[],[],[],[],[0,6,23,24,25],[],[],[],[0,6,8,23,24,25,35],[0,6,8,23,24,25,35,42],[0,6,8,23,24,25,44],[0,6,8,23,24,25,44,49],[],[],[],[],[6],[]]
 | 50=>[[],[]]
 | 51=>[[]]
 | 52=>[[],[],[],[0,2,3],[]]
 | 53=>[[],[],[],[],[0,3,19,20],[],[],[],[],[],[],[0,3,4,5,6,19,20,26,27],[],[],[],[],[],[],[],[],[0,3,4,5,6,7,19,20,26,27,37,38],[],[],[],[0,3,4,5,7,8,19,20,26,27,37,38,42],[0,3,4,5,7,8,19,20,26,27,37,38,42,48],[0,3,4,5,7,19,20,26,27,37,38,42,48,56],[0,3,4,5,7,19,20,26,27,37,38,42,57],[],[0,3,4,5,6,19,20,26,27],[0,3,5,6,19,20],[],[0,3,19,20],[3],[],[3],[],[],[3],[]]
 | 54=>[[],[],[],[],[],[],[]]
 | 55=>[[],[]]
 | 56=>[[],[]]
 | 57=>[[],[]]
 | 58=>[[],[],[],[],[],[],[1,4],[],[],[],[],[],[],[],[]]
 | 59=>[[],[],[],[],[0,1,2,9,10],[],[],[],[],[],[0,1,2,9,10,19,20],[],[],[],[],[],[0,1,2,9,10,12,13,14,19,20,36],[0,1,2,9,10,12,13,14,19,20,36,38],[],[0,1,2,9,10,19,20],[1,2,9],[]]
 | 65=>[[],[],[],[0,1,2,4,9,10],[],[],[],[],[],[],[0,1,2,4,5,6,9,10,16,17],[],[],[],[],[0,1,2,4,5,6,9,10,16,17],[0,1,2,4,5,6,9,10],[],[],[0,1,2,4,9,10]]
 | 66=>[[],[],[],[0,1,2,3,8,9],[],[],[],[],[],[],[],[],[],[0,1,2,3,8,9,10],[],[],[],[],[0,1,2,3,8,9,10,11,12],[0,1,2,3,8,9,10,11,12,62],[0,1,2,3,8,9,10,11,12,62,63],[0,1,2,3,8,9,10,11,12,65],[0,1,2,3,8,9,10,11,65,67],[],[],[0,1,2,3,8,9,10,11],[],[],[],[],[],[],[],[],[],[],[],[],[]]
 | 67=>[[],[],[],[]]
 | 68=>[[],[1,4,6],[1,4,6,9],[]]
 | 69=>[[],[],[0],[0,6],[0,6,13],[],[],[0],[]]
 | 70=>[[],[],[0,1],[],[],[],[],[0,1,5,6,21,22],[],[],[],[],[],[0,1,5,6,7,8,21,22],[0,1,5,6,21,22],[0,5,6],[],[]]
 | 71=>[[],[],[],[],[],[],[],[],[],[0,1,5],[],[],[],[],[],[],[],[],[],[]]
 | 72=>[[],[],[],[],[],[0,1,5,6,13,14],[],[],[],[],[],[0,1,5,6,7,8,13,14],[0,1,5,6,13,14],[5],[]]
 | 73=>[[],[],[],[],[1,5,18,19,20],[],[],[],[],[],[],[1,5,6,7,8,18,19,20,25,26,27],[],[],[],[],[],[1,5,6,8,18,19,20],[1,5,18,19,20],[5],[]]
 | 74=>[[],[]]
 | 75=>[[],[],[],[],[],[],[0,3],[],[],[],[],[],[3,4,5,6],[3,4,5,6,20],[3,4,5,6,20,24],[3,4,5,6,20,24,26],[3,4,5,6,20,27],[],[],[],[],[3,4],[3],[],[]]
 | 76=>[[],[1,8],[8,14],[]]
 | 84=>[[],[],[0,1,2,6],[],[],[],[],[0,1,2,6,7],[],[],[],[0,1,2,6]]
 | 90=>[[],[0,1,7],[0,1,7,10],[0,1,12],[12,15],[]]
 | 93=>[[],[],[],[0,2],[],[],[0,2],[]]
 | 94=>[[],[],[],[0,2],[],[],[0,2],[],[],[0,2],[]]
 | 95=>[[],[],[],[]]
 | 96=>[[],[],[]]
 | 97=>[[],[],[],[],[],[0,1,6,7,8],[],[],[],[],[6,7],[]]
 | 98=>[[],[],[0,2,3],[],[],[]]
 | 106=>[[],[]]
 | _=>[]
end
section
theorem Jk:(jf Tryd.prog ze 1000 30 (.func 9) [] []).map Prod.fst=some (.bool true):=by kernel_rfl
theorem C9 {h:ad} {K:Value->ad->Prop} (hk:K (.bool true) h):ay Tryd.prog 9 [] h K:=by
 obtain ⟨h',hc⟩:=Gl ze 1000 30 Jk
 exact Fx (Ren.bo rfl) hc rfl hk
end
section
section
variable {K : Value -> ad -> Prop} {h : ad}
theorem CK {v w:Value} {ls:List (List UInt8)} (hv:SS h v ls) (hw:SS h w ls) (hs:ls.length<=1000) (hk:K (B true) h):ay Tryd.prog 10 [v,w] h K:=by
 refine f10 ?_
 simp only [sr,hv.len,hw.len,aq,pR,decide_true,Bool.not_true,fm]
 refine ej (σ:=Nat) (λi=>[I i]) (λ_=>h) (λi=>i<=ls.length) (λi=>ls.length-i) 0 rfl rfl (by omega) ?_
 intro i hi L hL
 rw [JK]
 simp only [hv.len,aq,dH,cI]
 refine ⟨λhlt=>?_,λ_=>hk⟩
 obtain ⟨b,o,g1,g2⟩:=hv.get i (by omega)
 obtain ⟨b',o',Gz,GA⟩:=hw.get i (by omega)
 simp only [g1,g2,Gz,GA,aq,true_and,Ek,decide_true,Bool.not_true,fm,dp,dD i (by omega)]
 exact hL (i+1) (by omega) (by omega)
theorem C3 {ps:List (Int×Int)} {pv:Value} {k:Int} {x:List UInt8} (hp:kA h pv ps) (hk:∀h',K (.bool true) h'):ay Tryd.prog 3 [.agg #[I k,pv],S x] h K:=by
 refine f3 ?_
 unfold T3
 refine JG hp ?_
 intro h2 qv qs hq HO
 simp only [mi,mS,mT,aq]
 refine C6 (n:=41) ?_
 have Ia:(x.take 41).length<=41:=by rw [List.length_take];omega
 generalize x.take 41=s at Ia⊢
 have CE:∀{g:ad} {K2:Value->ad->Prop},EX h2 g->(∀g',EX g g'->K2 (I (eJ k qs [s] 40)) g')->OH (bI 9 1 [(.string ⟨#[]⟩)] g [(0,1,S s)]) λaN h_5=>ay Tryd.prog 8 [I k,qv,(.int .i64 (40)),aN] h_5 K2:=by
  intro g K2 xg hk2
  simp only [Az,cw]
  have x5:EX g (g++[.arr 9 [S s]]):=EX.append _ _
  have lp:SS (g++[.arr 9 [S s]]) (sl 9 g.length 0 1) [s]:=SS.sl (ls:=[s]) (by simp [bd])
  refine C8 (most:=40) (hq.mono (xg.trans x5)) (by omega) lp (by simp) (by simp;omega) ?_
  exact hk2 _ x5
 refine C7 hq (by omega) (by omega) (λhw g xg=>?_) (λhw v g xg hv=>?_)
 ·simp only [mi,mS,mT,aq]
  refine CE xg λg' x'=>?_
  have l0:cK (.slice none 0 0)=some (I 0):=rfl
  simp only [pR,eA hw,Bool.not_false,aq,fT,l0,gC,decide_true]
  rw [Kq]
  simp only [ky,gC,decide_true,aq]
  rw [Kr]
  simp only [jx,aq]
  rw [Ks]
  simp only [ky]
  refine C9 ?_
  rw [Kt]
  simp only [jx,aq]
  exact hk _
 ·obtain ⟨qO,uw⟩:=CF hw
  obtain ⟨n,rfl,hn1,kb⟩:=wv qO
  obtain ⟨ur,j3⟩:=Cu uw s (by simp)
  have l6:=u7 kb (Ar j3)
  simp only [mi,mS,mT,aq]
  refine CE xg λg' x'=>?_
  rw [hw]
  have e0:au .neq (I 0) (.int .i64 (0))=some (B false):=rfl
  simp only [e0,aq,fm]
  refine CL (hq.mono (xg.trans x')) (Cy qO).1 (by omega) l6 ur ?_
  intro w g2 x2 ux
  have B1:=ry (aY qs) s 6
  refine CK (hv.mono (x'.trans x2)) ux (by omega) ?_
  rw [Ku]
  simp only [ky,gC,decide_true,aq]
  rw [Kv]
  simp only [jx,aq]
  rw [Kw]
  simp only [ky]
  refine C9 ?_
  rw [Kx]
  simp only [jx,aq]
  exact hk _
end
end
end Go.Proofs.YtlpdhfdpnakgdaaDoor
