/-
  Part 2 of the texts behind a statement of this seat: Sim15, Sim17, Sim18, Sim18b, Sim18c, Sim18d, Sim18e, Sim18f, Sim19, Sim19b, Sim16, Sim20, Sim21, Sim23, Sp1.
-/
import Derived.ProofKit
import Derived.OpenShut
import Derived.Test.YtlpdhfdpnakgdaaDoorSp1
open Array (replicate)
open Bool (and_eq_true or_eq_true)
open Classical (byContradiction choose_spec)
open List (all_eq_true cons_append getD getElem?_append_left getElem?_eq_getElem getElem?_set_ne getElem?_set_self length_cons map_cons mem_cons mem_cons_of_mem mem_of_getElem? mem_range nodup_cons range')
open Nat (add_zero le_of_not_lt le_refl zero_add)
open Option (bind_some getD_some map_some)
namespace Go.Sim
section
section
variable {P : Program} {N : Nat}
def cx (P:Program) (N:Nat) (ops:Array Oper) (fv:List Nat) (f:Nat->Value) (h:ad) (f':Nat->Value) (h':ad):Prop:=
 ∀S B ρ a w,bD P N B ρ f h a w->∀Q:Exit->Act->World->Prop,(∀ae a' w',bD P N B ae f' h' a' w'->Tr ρ h w ae h' w'->Q .normal a' w')->wpOpsIn (FR S) 0 P ops Q fv a w
theorem cx.nil {ops:Array Oper} {f:Nat->Value} {h:ad}:cx P N ops [] f h f h:=λ_ _ ρ a w R _ hq=>hq ρ a w R (Tr.refl R.heap)
theorem bD.jK {B:Nat} {ρ ae:ai} {f:Nat->Value} {h h':ad} {a:Act} {w w':World} (R:bD P N B ρ f h a w) {d:Option Nat} (hd:d.all (·<N)=true) {v v':Value} (T:Tr ρ h w ae h' w') (hv:af ae v v') (H:ar P ae h' w'):
  bD P N B ae (aX f d v) h' (a.put d v') w':=by
 cases d with
 | none=>exact R.mono T H
 | some d=>exact R.put (by simpa using hd) T hv H
theorem cx.step {ops:Array Oper} {i:Nat} {fv:List Nat} {o:Oper} {f f':Nat->Value} {h h₁ h':ad} {v:Value} (ho:ops[i]?=some o) (hd:o.dst.all (·<N)=true)
  (hw:∀B ρ a w,bD P N B ρ f h a w->Region.wanted o (yielded ops a.tmps)=true) (hs:pJ P N o f h v h₁) (hr:cx P N ops fv (aX f o.dst v) h₁ f' h'):cx P N ops (i::fv) f h f' h':=by
 intro S B ρ a w R Q hq
 simp only [wpOpsIn,ho]
 rw [if_pos (hw B ρ a w R)]
 refine hs S B ρ a w R _ _ ?_
 intro ae v' w' hv H T
 exact hr S B ae _ w' (R.jK hd T hv H) Q λfk ja er gX T'=>hq fk ja er gX (T.trans T')
theorem cx.pass {ops:Array Oper} {i:Nat} {fv:List Nat} {o:Oper} {f f':Nat->Value} {h h':ad} (ho:ops[i]?=some o) (hd:o.dst.all (·<N)=true)
  (hw:∀B ρ a w,bD P N B ρ f h a w->Region.wanted o (yielded ops a.tmps)=false) (hr:cx P N ops fv (aX f o.dst undef) h f' h'):cx P N ops (i::fv) f h f' h':=by
 intro S B ρ a w R Q hq
 simp only [wpOpsIn,ho]
 rw [if_neg (by rw [hw B ρ a w R];simp)]
 exact ⟨λ_ _=>trivial,hr S B ρ _ w (R.jK hd (Tr.refl R.heap) (af.undef _) R.heap) Q hq⟩
def hK (g:Option (Nat×Bool)) (f:Nat->Value):Prop:=
 match g with
 | none=>True
 | some (s,_)=>jB (f s)=false
theorem IN {ρ:ai} {v v':Value} (h:af ρ v v') (hb:jB v=false) (b:Bool):gu v' b=gu v b:=by
 cases h <;> first | rfl | simp [jB] at hb
theorem qD {v:Value} {b:Bool} {A B:Prop} (h:dI v b A B):jB v=false/\((gu v b=true/\A)∨(gu v b=false/\B)):=by
 unfold dI at h
 split at h
 ·rename_i c
  refine ⟨rfl,?_⟩
  split at h
  ·rename_i hc;exact .inl ⟨hc,h⟩
  ·rename_i hc;exact .inr ⟨by simpa [gu] using hc,h⟩
 ·exact h.elim
 ·rename_i x h1 h2
  have e1:jB v=false:=by
   cases v <;> first | rfl | exact absurd rfl (h2 _ _ _)
  have e2:gu v b=false:=by
   cases v <;> first | rfl | exact absurd rfl (h1 _)
  exact ⟨e1,.inr ⟨e2,h⟩⟩
theorem rZ {ops:Array Oper} {o:Oper} {g:Option (Nat×Bool)} (hg:qh N ops o.guard=some g) {B:Nat} {ρ:ai} {f:Nat->Value} {h:ad} {a:Act} {w:World} (R:bD P N B ρ f h a w) (hb:hK g f):
  Region.wanted o (yielded ops a.tmps)=cE g f:=by
 unfold qh at hg
 unfold Region.wanted
 cases dK:o.guard with
 | none=>rw [dK] at hg;simp at hg;subst hg;rfl
 | some jb=>
  obtain ⟨j,b⟩:=jb
  rw [dK] at hg
  simp only at hg⊢
  split at hg
  ·rename_i s hs
   split at hg
   ·rename_i hlt
    simp at hg;subst hg
    simp only [cE]
    have hr:=R.tmp s
    have ft:s<a.tmps.size:=by rw [R.size];exact hlt
    have az:a.tmps[s]?=some (a.tmps.getD s Go.undef):=by simp [Array.getD,ft]
    rw [<-IN hr hb b]
    unfold yielded
    rw [hs]
    simp only [bind_some,az]
    generalize a.tmps.getD s Go.undef=u
    cases u <;> simp [gu]
   ·cases hg
  ·cases hg
def lR (f' f:Nat->Value):Prop:=∀t,f' t=f t∨f' t=xM
theorem bD.weaken {B:Nat} {ρ:ai} {f f':Nat->Value} {h:ad} {a:Act} {w:World} (R:bD P N B ρ f h a w) (hw:lR f' f):bD P N B ρ f' h a w:=
 ⟨R.size,R.defers,λt=>(hw t).elim (λe=>by rw [e];exact R.tmp t) (λe=>by rw [e];exact .any _),R.heap⟩
theorem rh (f:Nat->Value):∀ls:List Nat,lR (ep ls (ls.map f)) f
 | [],t=>.inr rfl
 | l::ls,t=>by
  simp only [map_cons,Jt]
  by_cases h:t=l
  ·subst h;simp
  ·rw [if_neg h];exact rh f ls t
theorem cx.weaken {ops:Array Oper} {fv:List Nat} {f bG f':Nat->Value} {h h':ad} (hw:lR bG f) (hr:cx P N ops fv bG h f' h'):cx P N ops fv f h f' h':=
 λS B ρ a w R=>hr S B ρ a w (R.weaken hw)
theorem cp.weaken {b:Bool} {c:Code} {f bG f':Nat->Value} {h h':ad} {e:Exit} (hw:lR bG f) (hr:cp P N b c bG h e f' h'):cp P N b c f h e f' h':=
 λS hS B ρ a w R=>hr S hS B ρ a w (R.weaken hw)
theorem jM {S:Option Nat} {ops:Array Oper} {Q:Exit->Act->World->Prop}:∀{i j:List Nat} {a:Act} {w:World},wpOpsIn (FR S) 0 P ops (λe a w=>match e with | .normal=>wpOpsIn (FR S) 0 P ops Q j a w | e=>Q e a w) i a w->wpOpsIn (FR S) 0 P ops Q (i++j) a w
 | [],j,a,w,h=>h
 | i::is,j,a,w,h=>by
  simp only [cons_append,wpOpsIn] at h⊢
  cases ho:ops[i]? with
  | none=>rw [ho] at h;exact jM h
  | some o=>
   rw [ho] at h
   simp only at h⊢
   split at h
   ·rename_i hw
    rw [if_pos hw]
    obtain ⟨h0,h⟩:=h
    refine ⟨h0,?_⟩
    generalize (o.semAt (FR S).round a.eval).run P w=r at h⊢
    cases r with
    | ok x w'=>
     cases x <;> simp only [Oper.uponIn] at h⊢
     ·exact jM h
     ·exact jM h
     ·refine ⟨h.1,h.2.mono ?_⟩
      rintro e er hR
      cases e with
      | returned v=>exact jM hR
      | panicked chain=>exact hR
      | outgrown=>exact hR
     ·refine ⟨h.1,h.2.mono ?_⟩
      rintro e er hR
      cases e with
      | returned v=>exact jM hR
      | panicked chain=>exact hR
      | outgrown=>exact hR
     ·exact jM h
     ·refine ⟨h.1,h.2.mono ?_⟩
      rintro v er hR
      exact jM hR
    | halt x w'=>
     cases x <;> simp only [Oper.uponIn] at h⊢
     exact h
   ·rename_i hw
    rw [if_neg hw]
    exact ⟨h.1,jM h.2⟩
theorem cx.append {ops:Array Oper} {i j:List Nat} {f bG f':Nat->Value} {h h₁ h':ad} (a:cx P N ops i f h bG h₁) (b:cx P N ops j bG h₁ f' h'):cx P N ops (i++j) f h f' h':=by
 intro S B ρ ac w R Q hq
 refine jM (a S B ρ ac w R _ ?_)
 intro ae a' w' R' T
 exact b S B ae a' w' R' Q λfk ja er gX T'=>hq fk ja er gX (T.trans T')
theorem qi {ops:Array Oper} {o:Oper} {x:cH} (h:kF P N ops o=some x):
  o.op.operands.all di=true/\o.dst.all (·<N)=true/\jT P o.op=some x.op/\qh N ops o.guard=some x.guard/\x.dst=o.dst:=by
 unfold kF at h
 split at h
 ·rename_i hc
  simp only [and_eq_true] at hc
  split at h
  ·rename_i op g h1 h2
   simp at h;subst h
   exact ⟨hc.1,hc.2,h1,h2,rfl⟩
  ·cases h
 ·cases h
theorem nC {ops:Array Oper} {o:Oper} {os:List Oper} {l:List cH} (h:eS P N ops (o::os)=some l):∃x xs,kF P N ops o=some x/\eS P N ops os=some xs/\l=x::xs:=by
 simp only [eS] at h
 split at h
 ·rename_i x xs h1 h2
  simp at h
  exact ⟨x,xs,h1,h2,h.symm⟩
 ·cases h
theorem uZ {ops:Array Oper}:∀{os:List Oper} {l:List cH} {i:Nat} {K:(Nat->Value)->ad->Prop} {f:Nat->Value} {h:ad},(∀(k:Nat) (o:Oper),os[k]?=some o->ops[i+k]?=some o)->eS P N ops os=some l->ij P l K f h->
  ∃f' h',cx P N ops (range' i os.length) f h f' h'/\K f' h'
 | [],l,i,K,f,h,_,hc,hi=>by
  simp [eS] at hc
  subst hc
  exact ⟨f,h,cx.nil,hi⟩
 | o::os,l,i,K,f,h,mE,hc,hi=>by
  obtain ⟨x,xs,h1,h2,rfl⟩:=nC hc
  obtain ⟨q1,q2,q3,q4,q5⟩:=qi h1
  have ho:ops[i]?=some o:=mE 0 o rfl
  have zK:∀(k:Nat) (o':Oper),os[k]?=some o'->ops[i+1+k]?=some o':=by
   intro k o' hk
   have:=mE (k+1) o' (by simpa using hk)
   rw [show i+(k+1)=i+1+k by omega] at this
   exact this
  have go:∀(_:hK x.guard f) (_:cE x.guard f=true),aR P x.op f h (λv h'=>ij P xs K (aX f x.dst v) h')->
    ∃f' h',cx P N ops (range' i (o::os).length) f h f' h'/\K f' h':=by
   intro hb hw hs
   obtain ⟨v,h',bZ,hk⟩:=mR (N:=N) q3 q1 hs
   obtain ⟨tw,aP,r1,r2⟩:=uZ zK h2 hk
   refine ⟨tw,aP,?_,r2⟩
   rw [length_cons,List.range'_succ]
   rw [q5] at r1
   exact cx.step ho q2 (λB ρ a w R=>by rw [rZ q4 R hb,hw]) bZ r1
  have skip:∀(_:hK x.guard f) (_:cE x.guard f=false),ij P xs K (aX f x.dst undef) h->
    ∃f' h',cx P N ops (range' i (o::os).length) f h f' h'/\K f' h':=by
   intro hb hw hs
   obtain ⟨tw,aP,r1,r2⟩:=uZ zK h2 hs
   refine ⟨tw,aP,?_,r2⟩
   rw [length_cons,List.range'_succ]
   rw [q5] at r1
   exact cx.pass ho q2 (λB ρ a w R=>by rw [rZ q4 R hb,hw]) r1
  simp only [ij] at hi
  split at hi
  ·rename_i dK
   exact go (by rw [dK];trivial) (by rw [dK];rfl) hi
  ·rename_i s b dK
   obtain ⟨e1,e2⟩:=qD hi
   rcases e2 with ⟨e2,e3⟩ | ⟨e2,e3⟩
   ·exact go (by rw [dK];exact e1) (by rw [dK];exact e2) e3
   ·exact skip (by rw [dK];exact e1) (by rw [dK];exact e2) e3
def jj (g:Option (Nat×Bool)) (l:List ey):List cH:=l.map λo=>⟨o.dst,o.op,g⟩
def gF:List (Option (Nat×Bool)×List ey)->List cH
 | []=>[]
 | (g,l)::gs=>jj g l++gF gs
theorem tB:∀os:List cH,gF (jn os)=os
 | []=>rfl
 | o::os=>by
  have ih:=tB os
  simp only [jn]
  cases hg:jn os with
  | nil=>
   rw [hg] at ih
   simp only [gF] at ih
   subst ih
   simp [gF,jj]
  | cons a gs=>
   obtain ⟨g,l⟩:=a
   rw [hg] at ih
   simp only
   split
   ·rename_i he
    simp only [gF,jj,map_cons,cons_append] at ih⊢
    rw [ih,<-he]
   ·simp only [gF,jj,map_cons,List.map_nil,cons_append,List.nil_append] at ih⊢
    rw [ih]
theorem tO {v:Value} {b:Bool} {A B:Prop} (hb:jB v=false) (hA:gu v b=true->A) (hB:gu v b=false->B):dI v b A B:=by
 unfold dI
 split
 ·split
  ·rename_i c hc;exact hA hc
  ·rename_i c hc;exact hB (by simpa [gu] using hc)
 ·simp [jB] at hb
 ·rename_i x h1 h2
  refine hB ?_
  cases v <;> first | rfl | exact absurd rfl (h1 _)
theorem Jy {g:Option (Nat×Bool)} {K:(Nat->Value)->ad->Prop}:∀{l:List ey} {f:Nat->Value} {h:ad},(∀o∈l,leaves g o.dst=true)->jF P g l K f h->ij P (jj g l) K f h:=by
 intro l f h hl hk
 cases g with
 | none=>
  simp only [jF] at hk
  clear hl
  induction l generalizing f h with
  | nil=>exact hk
  | cons o l ih=>
   simp only [j1] at hk
   simp only [jj,map_cons,ij]
   have:aR P o.op f h (λv h'=>ij P (jj none l) K (aX f o.dst v) h'):=by
    have mono:∀{io:cN} {K K':Value->ad->Prop},(∀v h,K v h->K' v h)->aR P io f h K->aR P io f h K':=by
     intro io K K' hm hs
     cases io with
     | p po=>simp only [aR,bK] at hs⊢;split at hs <;> first | exact hm _ _ hs | exact hs.elim
     | l lo=>simp only [aR,bK] at hs⊢;split at hs <;> first | exact hm _ _ hs | exact hs.elim
     | e eo=>simp only [aR,fe] at hs⊢;split at hs <;> first | exact hm _ _ hs | exact hs.elim
     | call g args=>exact hs.mono hm
     | ed x args=>simp only [aR,iF] at hs⊢;split at hs <;> first | exact ⟨hs.1,hs.2.mono hm⟩ | exact hs.elim
    exact mono (λv h' bH=>ih bH) hk
   exact this
 | some sb=>
  obtain ⟨s,b⟩:=sb
  simp only [jF] at hk
  obtain ⟨e1,e2⟩:=qD hk
  clear hk
  induction l generalizing f h with
  | nil=>
   rcases e2 with ⟨_,e⟩ | ⟨_,e⟩ <;> exact e
  | cons o l ih=>
   have hd:o.dst≠some s:=by simpa [leaves] using hl o (by simp)
   have hs:∀v,aX f o.dst v s=f s:=by
    intro v
    cases ho:o.dst with
    | none=>rfl
    | some d=>
     have:s≠d:=by rintro rfl;exact hd ho
     simp [aX,iy,this]
   simp only [jj,map_cons,ij]
   refine tO e1 (λhb=>?_) (λhb=>?_)
   ·rcases e2 with ⟨_,e⟩ | ⟨e,_⟩
    ·simp only [j1] at e
     have mono:∀{io:cN} {K K':Value->ad->Prop},(∀v h,K v h->K' v h)->aR P io f h K->aR P io f h K':=by
      intro io K K' hm hs
      cases io with
      | p po=>simp only [aR,bK] at hs⊢;split at hs <;> first | exact hm _ _ hs | exact hs.elim
      | l lo=>simp only [aR,bK] at hs⊢;split at hs <;> first | exact hm _ _ hs | exact hs.elim
      | e eo=>simp only [aR,fe] at hs⊢;split at hs <;> first | exact hm _ _ hs | exact hs.elim
      | call g args=>exact hs.mono hm
      | ed x args=>simp only [aR,iF] at hs⊢;split at hs <;> first | exact ⟨hs.1,hs.2.mono hm⟩ | exact hs.elim
     refine mono (λv h' bH=>?_) e
     exact ih (λo' bg=>hl o' (by simp [bg])) (by rw [hs];exact e1) (.inl ⟨by rw [hs];exact hb,bH⟩)
    ·rw [hb] at e;cases e
   ·rcases e2 with ⟨e,_⟩ | ⟨_,e⟩
    ·rw [hb] at e;cases e
    ·exact ih (λo' bg=>hl o' (by simp [bg])) (by rw [hs];exact e1) (.inr ⟨by rw [hs];exact hb,e⟩)
theorem y3 {ops:Array Oper}:∀{os:List Oper} {m0 m1:List cH},eS P N ops os=some (m0++m1)->∃gQ im,os=gQ++im/\eS P N ops gQ=some m0/\eS P N ops im=some m1
 | os,[],m1,h=>⟨[],os,rfl,rfl,h⟩
 | [],x::m0,m1,h=>by simp [eS] at h
 | o::os,x::m0,m1,h=>by
  obtain ⟨y,ys,h1,h2,he⟩:=nC h
  simp only [cons_append,List.cons.injEq] at he
  obtain ⟨rfl,rfl⟩:=he
  obtain ⟨gQ,im,rfl,e1,e2⟩:=y3 h2
  refine ⟨o::gQ,im,rfl,?_,e2⟩
  simp [eS,h1,e1]
theorem y5 {ls:List Nat} {c:bW} {K:Exit->(Nat->Value)->ad->Prop} {f:Nat->Value} {h:ad} (hi:cM P (nE ls c) K f h):∃f',lR f' f/\cM P c K f' h:=by
 cases ls with
 | nil=>exact ⟨f,λ_=>.inl rfl,hi⟩
 | cons l ls=>exact ⟨_,rh f (l::ls),hi⟩
theorem KQ {ops:Array Oper}:∀{gs:List (Option (Nat×Bool)×List ey)} {hs:Hints} {os:List Oper} {i:Nat} {K:Exit->(Nat->Value)->ad->Prop} {f:Nat->Value} {h:ad},
  (∀(k:Nat) (o:Oper),os[k]?=some o->ops[i+k]?=some o)->eS P N ops os=some (gF gs)->(∀g l,(g,l)∈gs->∀o∈l,leaves g o.dst=true)->cM P (kp gs hs).1 K f h->
  ∃f' h',cx P N ops (range' i os.length) f h f' h'/\K .normal f' h':=by
 intro gs
 induction gs with
 | nil=>
  intro hs os i K f h mE hc _ hi
  cases os with
  | nil=>exact ⟨f,h,cx.nil,hi⟩
  | cons o os=>
   obtain ⟨x,xs,_,_,he⟩:=nC hc
   simp [gF] at he
 | cons a gs ih=>
  obtain ⟨g,l⟩:=a
  intro hs os i K f h mE hc hl hi
  simp only [gF] at hc
  obtain ⟨gQ,im,rfl,c0,c1⟩:=y3 hc
  have HF:∀(k:Nat) (o:Oper),gQ[k]?=some o->ops[i+k]?=some o:=by
   intro k o hk
   refine mE k o ?_
   rw [getElem?_append_left (bw hk).1]
   exact hk
  have HG:∀(k:Nat) (o:Oper),im[k]?=some o->ops[i+gQ.length+k]?=some o:=by
   intro k o hk
   rw [Nat.add_assoc]
   refine mE _ o ?_
   rw [List.getElem?_append_right (by omega)]
   simpa using hk
  have first:∀{K:(Nat->Value)->ad->Prop},jF P g l K f h->∃f' h',cx P N ops (range' i gQ.length) f h f' h'/\K f' h':=by
   intro K hk
   exact uZ HF c0 (Jy (λo ho=>hl g l (by simp) o ho) hk)
  have both:∀{bG:Nat->Value} {h₁:ad} {f':Nat->Value} {h':ad},cx P N ops (range' i gQ.length) f h bG h₁->cx P N ops (range' (i+gQ.length) im.length) bG h₁ f' h'->cx P N ops (range' i (gQ++im).length) f h f' h':=by
   intro bG h₁ f' h' a b
   rw [List.length_append,<-List.range'_append_1]
   exact a.append b
  have rest:∀{hs:Hints} {bG:Nat->Value} {h₁:ad},cM P (kp gs hs).1 K bG h₁->∃f' h',cx P N ops (range' (i+gQ.length) im.length) bG h₁ f' h'/\K .normal f' h':=
   λhk=>ih HG c1 (λg' l' hm=>hl g' l' (by simp [hm])) hk
  cases gs with
  | nil=>
   have HD:cM P (.ops g l) K f h:=by
    cases hs <;> exact hi
   obtain ⟨f',h',r1,r2⟩:=first HD
   have h1:im=[]:=by
    cases im with
    | nil=>rfl
    | cons o os=>obtain ⟨x,xs,_,_,he⟩:=nC c1;simp [gF] at he
   subst h1
   exact ⟨f',h',by simpa using r1,r2⟩
  | cons b gs=>
   cases hs with
   | nil=>
    obtain ⟨bG,h₁,r1,r2⟩:=first (K:=λf h=>cM P (kp (b::gs) []).1 K f h) hi
    obtain ⟨f',h',s1,s2⟩:=rest r2
    exact ⟨f',h',both r1 s1,s2⟩
   | cons h0 hs=>
    obtain ⟨bG,h₁,r1,r2⟩:=first (K:=λf h=>cM P (nE h0 (kp (b::gs) hs).1) K f h) hi
    obtain ⟨Gx,hw,r3⟩:=y5 r2
    obtain ⟨f',h',s1,s2⟩:=rest r3
    exact ⟨f',h',both r1 (s1.weaken hw),s2⟩
def ik (S:Option Nat) (P:Program) (c:Code) (Q:Exit->Act->World->Prop) (a:Act) (w:World):Prop:=
 ∀(b:Frame) (k:List Item) (cs:List Frame),b.roundOf=S->
  ∃e a' w',Q e a' w'/\ArrivesIn (Machine.fenced P (FR S)) P (lone (b.atR a (.code c:: .inLoop c::k)) cs w) b k cs e a' w'
theorem FR.room (S:Option Nat) (n:Nat):(FR S).room n:=λ_ h=>by cases h
theorem ik.wp {S:Option Nat} {c:Code} {Q:Exit->Act->World->Prop} {a:Act} {w:World} (h:ik S P c Q a w):(Code.loop c).wpIn (FR S) 0 P Q a w:=by
 intro b k cs eE hb hr
 obtain ⟨e,a',w',q,r⟩:=h b k cs eE
 exact ⟨e,a',w',q,.of_steps (.one (fenced_calm hb hr rfl) stepR_loop) r⟩
theorem ik.round {S:Option Nat} {c:Code} {Q:Exit->Act->World->Prop} {a:Act} {w:World} (h:c.wpIn (FR S) 0 P (Exit.then (ik S P c Q) Q) a w):ik S P c Q a w:=by
 intro b k cs eE
 have hb:(FR S).fn b.fn:=trivial
 have hr:(FR S).room (cs.length+1+0):=FR.room S _
 obtain ⟨e,nt,iz,hq,j2⟩:=h b (.inLoop c::k) cs eE hb hr
 cases e with
 | normal=>
  obtain ⟨Gp,Eh,r4,HQ,GQ⟩:=hq b k cs eE
  exact ⟨Gp,Eh,r4,HQ,.of_steps (StepsIn.trans j2 (.one (fenced_calm hb hr rfl) stepR_inLoop)) GQ⟩
 | exit id=>exact ⟨_,nt,iz,hq,.pass (x:=.inLoop c) rfl (λ_ _=>.inl (by simp)) j2⟩
 | goto l=>exact ⟨_,nt,iz,hq,.pass (x:=.inLoop c) rfl (λ_ _=>.inl (by simp)) j2⟩
 | ret=>exact ⟨_,nt,iz,hq,.pass (x:=.inLoop c) rfl (λ_ _=>.inl (by simp)) j2⟩
 | panic ch=>exact ⟨_,nt,iz,hq,.pass (x:=.inLoop c) rfl (λ_ _=>.inl (by simp)) j2⟩
 | outgrown=>exact ⟨_,nt,iz,hq,.pass (x:=.inLoop c) rfl (λ_ _=>.inl (by simp)) j2⟩
theorem Jg {l:List cH} (h:l.all (λo=>leaves o.guard o.dst)=true):∀g m,(g,m)∈jn l->∀o∈m,leaves g o.dst=true:=by
 intro g m hm o ho
 have dr:(⟨o.dst,o.op,g⟩:cH)∈gF (jn l):=by
  generalize jn l=gs at hm
  induction gs with
  | nil=>simp at hm
  | cons a gs ih=>
   obtain ⟨g',m'⟩:=a
   simp only [gF,List.mem_append]
   rcases mem_cons.1 hm with he | hm
   ·cases he
    left
    simp only [jj,List.mem_map]
    exact ⟨o,ho,rfl⟩
   ·exact .inr (ih hm)
 rw [tB] at dr
 rw [all_eq_true] at h
 exact h _ dr
def fZ (P:Program) (N:Nat) (out:Bool) (c:Code) (f:Nat->Value) (h:ad) (e:Exit) (f':Nat->Value) (h':ad):Prop:=
 ∀S,(out=true->S=none)->∀B ρ a w,bD P N B ρ f h a w->ik S P c (kB P N B ρ h w e f' h') a w
theorem ik.mono {S:Option Nat} {c:Code} {Q Q':Exit->Act->World->Prop} {a:Act} {w:World} (h:ik S P c Q a w) (hq:∀e a w,Q e a w->Q' e a w):ik S P c Q' a w:=
 λb k cs eE=>let ⟨e,a',w',q,r⟩:=h b k cs eE;⟨e,a',w',hq _ _ _ q,r⟩
theorem kB.trans {B:Nat} {ρ l4:ai} {h h₁ h':ad} {w iz:World} {e:Exit} {f':Nat->Value} (T:Tr ρ h w l4 h₁ iz):∀e' a' w',kB P N B l4 h₁ iz e f' h' e' a' w'->kB P N B ρ h w e f' h' e' a' w':=by
 rintro e' a' w' ⟨rfl,ae,R,T'⟩
 exact ⟨rfl,ae,R,T.trans T'⟩
variable {out : Bool}
theorem fZ.next {c:Code} {f bG f':Nat->Value} {h h₁ h':ad} {e:Exit} (a:cp P N out c f h .normal bG h₁) (b:fZ P N out c bG h₁ e f' h'):fZ P N out c f h e f' h':=by
 intro S hS B ρ ac w R
 refine ik.round (wpIn_mono (a S hS B ρ ac w R) ?_)
 rintro e' a' w' ⟨rfl,ae,R',T⟩
 exact (b S hS B ae a' w' R').mono (kB.trans T)
theorem fZ.leave {c:Code} {f f':Nat->Value} {h h':ad} {e:Exit} (he:e≠ .normal) (a:cp P N out c f h e f' h'):fZ P N out c f h e f' h':=by
 intro S hS B ρ ac w R
 refine ik.round (wpIn_mono (a S hS B ρ ac w R) ?_)
 rintro e' a' w' ⟨rfl,ae,R',T⟩
 cases e' <;> first | exact absurd rfl he | exact ⟨rfl,ae,R',T⟩
theorem fZ.run {c:Code} {f f':Nat->Value} {h h':ad} {e:Exit} (a:fZ P N out c f h e f' h'):cp P N out (.loop c) f h e f' h':=λS hS B ρ ac w R=>(a S hS B ρ ac w R).wp
theorem cp.seq {x y:Code} {f bG f':Nat->Value} {h h₁ h':ad} {e:Exit} (a:cp P N out x f h .normal bG h₁) (b:cp P N out y bG h₁ e f' h'):cp P N out (.seq x y) f h e f' h':=by
 intro S hS B ρ ac w R
 refine wpIn_seq (wpIn_mono (a S hS B ρ ac w R) ?_)
 rintro e' a' w' ⟨rfl,ae,R',T⟩
 exact wpIn_mono (b S hS B ae a' w' R') (kB.trans T)
theorem cp.LD {x y:Code} {f f':Nat->Value} {h h':ad} {e:Exit} (he:e≠ .normal) (a:cp P N out x f h e f' h'):cp P N out (.seq x y) f h e f' h':=by
 intro S hS B ρ ac w R
 refine wpIn_seq (wpIn_mono (a S hS B ρ ac w R) ?_)
 rintro e' a' w' ⟨rfl,ae,R',T⟩
 cases e' <;> first | exact absurd rfl he | exact ⟨rfl,ae,R',T⟩
theorem cp.block {id:Nat} {c:Code} {f f':Nat->Value} {h h':ad} {e:Exit} (a:cp P N out c f h e f' h'):cp P N out (.block id c) f h (match e with | .exit i=>if i=id then .normal else .exit i | e=>e) f' h':=by
 intro S hS B ρ ac w R
 refine wpIn_block (wpIn_mono (a S hS B ρ ac w R) ?_)
 rintro e' a' w' ⟨rfl,ae,R',T⟩
 cases e' with
 | exit i=>
  simp only [Exit.inBlock]
  split
  ·exact ⟨rfl,ae,R',T⟩
  ·exact ⟨rfl,ae,R',T⟩
 | _=>exact ⟨rfl,ae,R',T⟩
theorem cp.cond {c:Operand} {x y:Code} {t:Bool} {f f':Nat->Value} {h h':ad} {e:Exit} (hc:di c=true) (ht:ev f c=.bool t) (a:cp P N out (if t then x else y) f h e f' h'):cp P N out (.cond c x y) f h e f' h':=by
 intro S hS B ρ ac w R
 have:=R.ev hc
 rw [ht] at this
 exact wpIn_cond this.me (a S hS B ρ ac w R)
theorem cp.region {id:Nat} {ops:Array Oper} {f f':Nat->Value} {h h':ad} (a:cx P N ops (List.range ops.size) f h f' h'):cp P N out (.region id ops false) f h .normal f' h':=by
 intro S hS B ρ ac w R
 refine wpIn_region (a S B ρ ac w R _ ?_)
 intro ae a' w' R' T
 exact ⟨rfl,ae,R',T⟩
theorem fZ.weaken {c:Code} {f bG f':Nat->Value} {h h':ad} {e:Exit} (hw:lR bG f) (hr:fZ P N out c bG h e f' h'):fZ P N out c f h e f' h':=
 λS hS B ρ a w R=>hr S hS B ρ a w (R.weaken hw)
end
end
section
inductive kC (ops:Array Oper):List Nat->List Nat->Prop
 | nil {S:List Nat}:(∀i,i<ops.size->i∈S)->kC ops S []
 | cons {S:List Nat} {i:Nat} {o:Oper} {l:List Nat}:ops[i]?=some o->i∉S->(∀e∈bE o,e∈S)->kC ops (i::S) l->kC ops S (i::l)
theorem pP:∀{ops:List Oper} {i:Nat},kD ops i=true->∀(k:Nat) (o:Oper),ops[k]?=some o->∀e∈bE o,e<i+k
 | [],i,_,k,o,hk=>by simp at hk
 | x::ops,i,h,k,o,hk=>by
  simp only [kD,and_eq_true,all_eq_true,decide_eq_true_eq] at h
  cases k with
  | zero=>simp at hk;subst hk;exact h.1
  | succ k=>
   intro e he
   have:=pP h.2 k o (by simpa using hk) e he
   omega
def ready (ops:Array Oper) (listed:Array Bool) (i:Nat):Bool:=
 !listed.getD i true&&((ops[i]?).map (·.after.all λe=> !Region.binds .any e||listed.getD e.on false)).getD false
theorem GH (ops:Array Oper) (fuel t:Nat) (listed:Array Bool) (acc:List Nat):
  Region.linearise.go .any ops (fuel+1) t listed acc=
   match ((List.range ops.size).filter (ready ops listed))[t%((List.range ops.size).filter (ready ops listed)).length]? with
   | some i=>Region.linearise.go .any ops fuel (t / ((List.range ops.size).filter (ready ops listed)).length) (listed.setIfInBounds i true) (i::acc)
   | none=>acc.reverse:=by
 rw [Region.linearise.go]
 rfl
theorem Ce {ops:Array Oper} {listed:Array Bool} {S:List Nat} (hl:listed.size=ops.size) (hS:∀i,i<ops.size->(listed.getD i false=true↔i∈S)) (hb:∀(k:Nat) (o:Oper),ops[k]?=some o->∀e∈bE o,e<k)
  {i:Nat} (hi:i<ops.size):ready ops listed i=true↔i∉S/\∀o,ops[i]?=some o->∀e∈bE o,e∈S:=by
 have ho:ops[i]?=some ops[i]:=by simp [hi]
 have e1:listed.getD i true=listed.getD i false:=by simp [Array.getD,hl,hi]
 unfold ready
 rw [e1,ho]
 simp only [map_some,getD_some,and_eq_true,Bool.not_eq_true',Option.some.injEq,forall_eq']
 have h1:listed.getD i false=false↔i∉S:=by
  rw [<-hS i hi]
  cases listed.getD i false <;> simp
 rw [h1]
 refine and_congr_right λ_=>?_
 rw [Array.all_eq_true']
 constructor
 ·intro h e he
  have hlt:=hb i _ ho e he
  unfold bE at he
  simp only [List.mem_filterMap] at he
  obtain ⟨x,hx,qP⟩:=he
  split at qP
  ·rename_i mw
   simp at qP
   subst qP
   have:=h x (by simpa using hx)
   simp only [or_eq_true,Bool.not_eq_true',mw] at this
   exact (hS _ (by omega)).1 (by simpa using this)
  ·cases qP
 ·intro h x hx
  cases mw:Region.binds .any x with
  | false=>simp
  | true=>
   have hm:x.on∈bE ops[i]:=by
    unfold bE
    simp only [List.mem_filterMap]
    exact ⟨x,by simpa using hx,by simp [mw]⟩
   have hlt:=hb i _ ho _ hm
   simp [(hS x.on (by omega)).2 (h _ hm)]
theorem rf:∀{l m:List Nat},l.Nodup->l ⊆ m->l.length<=m.length
 | [],m,_,_=>by simp
 | x::l,m,hd,hs=>by
  have hx:x∈m:=hs (by simp)
  rw [nodup_cons] at hd
  have h1:l ⊆ m.erase x:=by
   intro y hy
   have bc:y≠x:=by rintro rfl;exact hd.1 hy
   exact (List.mem_erase_of_ne bc).2 (hs (by simp [hy]))
  have h2:=rf hd.2 h1
  rw [List.length_erase_of_mem hx] at h2
  have:0<m.length:=List.length_pos_of_mem hx
  simp
  omega
theorem FH {n:Nat} {S:List Nat} (hlen:S.length<n):∃i,i<n/\i∉S/\∀k,k<i->k∈S:=by
 have hex:∃i,i<n/\i∉S:=by
  apply byContradiction
  intro aH
  have dT:∀i,i<n->i∈S:=λi hi=>byContradiction λh=>aH ⟨i,hi,h⟩
  have ov:List.range n ⊆ S:=λi hi=>dT i (mem_range.1 hi)
  have:=rf (List.nodup_range (n:=n)) ov
  simp at this
  omega
 have key:∀m,(∃i,i<m/\i<n/\i∉S)->∃i,i<n/\i∉S/\∀k,k<i->k∈S:=by
  intro m
  induction m with
  | zero=>rintro ⟨i,h,_⟩;omega
  | succ m ih=>
   rintro ⟨i,h1,h2,h3⟩
   by_cases bk:∃i,i<m/\i<n/\i∉S
   ·exact ih bk
   ·have Hg:i=m:=by
     by_cases e:i=m
     ·exact e
     ·exact absurd ⟨i,by omega,h2,h3⟩ bk
    subst Hg
    refine ⟨i,h2,h3,λk hk=>byContradiction λnZ=>bk ⟨k,hk,by omega,nZ⟩⟩
 obtain ⟨i,h1,h2⟩:=hex
 exact key n ⟨i,h1,h1,h2⟩
theorem zm {ops:Array Oper} (hb:∀(k:Nat) (o:Oper),ops[k]?=some o->∀e∈bE o,e<k):∀(fuel t:Nat) (listed:Array Bool) (acc:List Nat),listed.size=ops.size->
  (∀i,i<ops.size->(listed.getD i false=true↔i∈acc))->acc.Nodup->(∀i∈acc,i<ops.size)->acc.length+fuel=ops.size->
  ∃l,Region.linearise.go .any ops fuel t listed acc=acc.reverse++l/\kC ops acc l
 | 0,t,listed,acc,hl,hS,hd,hlt,hf=>by
  refine ⟨[],by simp [Region.linearise.go],.nil ?_⟩
  intro i hi
  apply byContradiction
  intro h
  have ov:(i::acc) ⊆ List.range ops.size:=by
   intro x hx
   rcases mem_cons.1 hx with rfl | hx
   ·simpa using hi
   ·simpa using hlt x hx
  have:=rf (nodup_cons.2 ⟨h,hd⟩) ov
  simp at this
  omega
 | fuel+1,t,listed,acc,hl,hS,hd,hlt,hf=>by
  rw [GH]
  obtain ⟨i0,zC,Hf,He⟩:=FH (n:=ops.size) (S:=acc) (by omega)
  have HT:ready ops listed i0=true:=(Ce hl hS hb zC).2 ⟨Hf,λo ho e he=>He e (hb i0 o ho e he)⟩
  have lj:0<((List.range ops.size).filter (ready ops listed)).length:=List.length_pos_of_mem (List.mem_filter.2 ⟨mem_range.2 zC,HT⟩)
  have az:∃i,((List.range ops.size).filter (ready ops listed))[t%((List.range ops.size).filter (ready ops listed)).length]?=some i:=⟨_,getElem?_eq_getElem (Nat.mod_lt _ lj)⟩
  obtain ⟨i,hi⟩:=az
  rw [hi]
  have dr:=mem_of_getElem? hi
  simp only [List.mem_filter,mem_range] at dr
  obtain ⟨dB,HX⟩:=dr
  obtain ⟨hY,kW⟩:=(Ce hl hS hb dB).1 HX
  obtain ⟨l,h1,h2⟩:=zm hb fuel (t / ((List.range ops.size).filter (ready ops listed)).length) (listed.setIfInBounds i true) (i::acc) (by simpa using hl) (by
   intro k hk
   by_cases e:k=i
   ·subst e;simp [Array.getD,hl,hk]
   ·have:(listed.setIfInBounds i true).getD k false=listed.getD k false:=by
     simp only [Array.getD_eq_getD_getElem?,Array.getElem?_setIfInBounds]
     rw [if_neg (Ne.symm e)]
    rw [this,hS k hk]
    simp [e]) (nodup_cons.2 ⟨hY,hd⟩) (by
   intro k hk
   rcases mem_cons.1 hk with rfl | hk
   ·exact dB
   ·exact hlt k hk) (by simp;omega)
  refine ⟨i::l,by simp only [h1];simp,?_⟩
  exact .cons (o:=ops[i]) (by simp [dB]) hY (kW _ (by simp [dB])) h2
theorem As {ops:Array Oper} (hb:kD ops.toList 0=true) (t:Nat):kC ops [] (Region.linearise .any ops t):=by
 have eT:∀(k:Nat) (o:Oper),ops[k]?=some o->∀e∈bE o,e<k:=by
  intro k o hk e he
  have:=pP hb k o (by simpa using hk) e he
  omega
 obtain ⟨l,h1,h2⟩:=zm eT ops.size t (replicate ops.size false) [] (by simp) (by intro i hi;simp [Array.getD,hi]) .nil (by simp) (by simp)
 have:Region.linearise .any ops t=l:=by
  unfold Region.linearise
  rw [h1]
  simp
 rw [this]
 exact h2
end
section
theorem tu {f f':Nat->Value}:∀{l:List Operand},(∀t∈tmpsOf l,f t=f' t)->∀x∈l,ev f x=ev f' x
 | [],_,x,hx=>by simp at hx
 | y::l,h,x,hx=>by
  have h':∀t∈tmpsOf l,f t=f' t:=by
   intro t ht
   apply h
   cases y <;> simp [tmpsOf,ht]
  rcases mem_cons.1 hx with rfl | hx
  ·cases x with
   | tmp t=>exact h t (by simp [tmpsOf])
   | _=>rfl
  ·exact tu h' x hx
theorem oI {g g':Operand->Value} {xs:List Operand} (h:∀x∈xs,g x=g' x):xs.map g=xs.map g':=List.map_congr_left h
theorem rj {g g':Operand->Value} {x:Option Operand} (h:∀y∈x.toList,g y=g' y):x.map g=x.map g':=by
 cases x with
 | none=>rfl
 | some y=>simp [h y (by simp)]
theorem rz {g g':Operand->Value} {ps:List (Nat×Nat×Operand)} (h:∀x∈ps.map (·.2.2),g x=g' x):(ps.map λ(o,s,x)=>(o,s,g x))=ps.map λ(o,s,x)=>(o,s,g' x):=by
 apply List.map_congr_left
 rintro ⟨o,s,x⟩ hx
 simp [h x (by simp;exact ⟨o,s,hx⟩)]
theorem IM {o:ga} {g g':Operand->Value} (h:∀x∈o.cj,g x=g' x):cP o g=cP o g':=by
 cases o with
 | oJ mx xs=>
  simp only [cP]
  rw [oI (xs:=xs) h]
 | rO x lo hi=>
  simp only [cP,ga.cj] at*
  rw [h x (by simp),rj (x:=lo) (λy hy=>h y (by simp at hy⊢;exact .inr (.inl hy))),rj (x:=hi) (λy hy=>h y (by simp at hy⊢;exact .inr (.inr hy)))]
 | rP e s x lo hi=>
  simp only [cP,ga.cj] at*
  rw [h x (by simp),rj (x:=lo) (λy hy=>h y (by simp at hy⊢;exact .inr (.inl hy))),rj (x:=hi) (λy hy=>h y (by simp at hy⊢;exact .inr (.inr hy)))]
 | fn f first captured=>
  simp only [cP,ga.cj] at*
  rw [oI (xs:=first) (λx hx=>h x (by simp [hx])),oI (xs:=captured) (λx hx=>h x (by simp [hx]))]
 | build zero parts=>
  simp only [cP]
  rw [rz (ps:=parts) h]
 | _=>simp [ga.cj] at h;simp [cP,h]
theorem IH {o:fU} {g g':Operand->Value} (h:∀x∈o.cj,g x=g' x) (H:ad):bM o g H=bM o g' H:=by
 cases o <;> simp [fU.cj] at h <;> simp [bM,h]
theorem ID {o:fS} {g g':Operand->Value} (h:∀x∈o.cj,g x=g' x) (H:ad):bU o g H=bU o g' H:=by
 cases o with
 | fc e n zs ps=>
  simp only [bU]
  rw [rz (ps:=ps) h]
 | fl a=>
  cases a with
  | fc e n zs ps=>
   simp only [bU]
   rw [rz (ps:=ps) h]
  | _=>simp [fS.cj,eK.cj] at h;simp [bU,h]
 | _=>simp [fS.cj] at h;simp [bU,h]
theorem rR {P:Program} {io:cN} {f f':Nat->Value} {h:ad} {K:Value->ad->Prop} (hf:∀t∈tmpsOf io.cj,f t=f' t):aR P io f h K↔aR P io f' h K:=by
 have he:=tu hf
 cases io with
 | p o=>simp only [aR];rw [IM he]
 | l o=>simp only [aR];rw [IH he]
 | e o=>simp only [aR];rw [ID he]
 | call g args=>
  simp only [aR]
  rw [oI (xs:=args) he]
 | ed x args=>simp only [aR];rw [he x (by simp [cN.cj]),oI (xs:=args) (λy hy=>he y (by simp [cN.cj,hy]))]
structure Trace (P:Program) (l:List aK) (j0:Nat) (F:Nat->Nat->Value) (H:Nat->ad) (V:Nat->Value):Prop where
 ku:∀k o,l[k]?=some o->F (j0+k+1)=aX (F (j0+k)) o.op.dst (V (j0+k))
 tL:∀k o,l[k]?=some o->hK o.op.guard (F (j0+k))
 yes:∀k o,l[k]?=some o->cE o.op.guard (F (j0+k))=true->aR P o.op.op (F (j0+k)) (H (j0+k)) λv h'=>v=V (j0+k)/\h'=H (j0+k+1)
 no:∀k o,l[k]?=some o->cE o.op.guard (F (j0+k))=false->V (j0+k)=undef/\H (j0+k+1)=H (j0+k)
 past:∀e oe k ok lo,l[e]?=some oe->oe.op.op.aV=true->l[k]?=some ok->ok.op.op=.l lo->cE ok.op.guard (F (j0+k))=true->e<k->ok.pre.testBit (j0+e)=false->
  bM lo (ev (F (j0+k))) (H (j0+e))=some (V (j0+k))
 tF:∀k ok lo e oe,l[k]?=some ok->ok.op.op=.l lo->cE ok.op.guard (F (j0+k))=true->l[e]?=some oe->oe.op.op.aV=true->k<e->oe.pre.testBit (j0+k)=false->
  bM lo (ev (F (j0+k))) (H (j0+e+1))=some (V (j0+k))
 zi:∀k ok a,l[k]?=some ok->ok.op.op=.e (.fl a)->cE ok.op.guard (F (j0+k))=true->∃u,fu (H (j0+k+1)) (V (j0+k))=some u/\
  ∀e oe,l[e]?=some oe->oe.op.op.aV=true->k<e->oe.pre.testBit (j0+k)=false->fu (H (j0+e+1)) (V (j0+k))=some u
theorem te {pre:Nat} {lo:fU} {f:Nat->Value} {v:Value}:∀{hs:List (Nat×ad)},jS pre lo f v hs->∀e H,(e,H)∈hs->pre.testBit e=false->bM lo (ev f) H=some v
 | [],_,e,H,hm,_=>by simp at hm
 | (e',H')::r,h,e,H,hm,hp=>by
  simp only [jS] at h
  rcases mem_cons.1 hm with hq | hm
  ·cases hq
   rw [if_neg (by rw [hp];simp)] at h
   exact h.1
  ·split at h
   ·exact te h e H hm hp
   ·exact te h.2 e H hm hp
theorem nB {pre:Nat} {H:ad}:∀{ls:bn},ee pre H ls->∀j lo f v,(j,lo,f,v)∈ls->pre.testBit j=false->bM lo (ev f) H=some v
 | [],_,j,lo,f,v,hm,_=>by simp at hm
 | (j',fM,f',v')::r,h,j,lo,f,v,hm,hp=>by
  simp only [ee] at h
  rcases mem_cons.1 hm with hq | hm
  ·cases hq
   rw [if_neg (by rw [hp];simp)] at h
   exact h.1
  ·split at h
   ·exact nB h j lo f v hm hp
   ·exact nB h.2 j lo f v hm hp
def nq (P:Program) (l:List aK) (j:Nat) (ah:List (Nat×ad)) (ag:bn) (K:(Nat->Value)->ad->Prop) (f:Nat->Value) (h:ad):Prop:=
 ∃F H V,F j=f/\H j=h/\K (F (j+l.length)) (H (j+l.length))/\Trace P l j F H V/\
  (∀e Hh,(e,Hh)∈ah->∀k ok lo,l[k]?=some ok->ok.op.op=.l lo->cE ok.op.guard (F (j+k))=true->ok.pre.testBit e=false->bM lo (ev (F (j+k))) Hh=some (V (j+k)))/\
  (∀i lo ff v,(i,lo,ff,v)∈ag->∀e oe,l[e]?=some oe->oe.op.op.aV=true->oe.pre.testBit i=false->bM lo (ev ff) (H (j+e+1))=some v)
theorem uP {P:Program}:∀{l:List aK} {j:Nat} {ah:List (Nat×ad)} {ag:bn} {K:(Nat->Value)->ad->Prop} {f:Nat->Value} {h:ad},dV P l j ah ag K f h->nq P l j ah ag K f h
 | [],j,ah,ag,K,f,h,hi=>
  ⟨λ_=>f,λ_=>h,λ_=>undef,rfl,rfl,hi,⟨λk o hk=>by simp at hk,λk o hk=>by simp at hk,λk o hk=>by simp at hk,λk o hk=>by simp at hk,λe oe k ok lo hk=>by simp at hk,λk ok lo e oe hk=>by simp at hk,λk ok a hk=>by simp at hk⟩,
   λe Hh hm k ok lo hk=>by simp at hk,λi lo ff v hm e oe hk=>by simp at hk⟩
 | o::os,j,ah,ag,K,f,h,hi=>by
  -- the rest,and MK the first step is laid ahead of it
  have key:∀(v:Value) (h':ad) (fW:List (Nat×ad)) (fN:bn),hK o.op.guard f->dV P os (j+1) fW fN K (aX f o.op.dst v) h'->
    (∀p∈ah,p∈fW)->(∀p∈ag,p∈fN)->(o.op.op.aV=true->(j,h)∈fW)->(∀lo,o.op.op=.l lo->cE o.op.guard f=true->(j,lo,f,v)∈fN)->
    (cE o.op.guard f=true->aR P o.op.op f h λu g=>u=v/\g=h')->(cE o.op.guard f=false->v=undef/\h'=h)->
    (∀lo,o.op.op=.l lo->cE o.op.guard f=true->∀e Hh,(e,Hh)∈ah->o.pre.testBit e=false->bM lo (ev f) Hh=some v)->
    (o.op.op.aV=true->∀i lo ff u,(i,lo,ff,u)∈ag->o.pre.testBit i=false->bM lo (ev ff) h'=some u)->
    (∀a,o.op.op=.e (.fl a)->cE o.op.guard f=true->∃u,fu h' v=some u/\(j,.obj (.const v),f,u)∈fN)->
    nq P (o::os) j ah ag K f h:=by
   intro v h' fW fN dJ H4 hh hl hE hL hy hn hp hf gH
   obtain ⟨F,H,V,f1,f2,f3,T,fp,ff⟩:=uP H4
   have over:∀{α:Type} (x:α) (G:Nat->α),∃G2:Nat->α,G2 j=x/\(∀k,G2 (j+k+1)=G (j+1+k))/\∀k,G2 (j+(k+1))=G (j+1+k):=by
    intro α x G
    refine ⟨λk=>if k=j then x else G k,by simp,λk=>?_,λk=>?_⟩
    ·show (if j+k+1=j then x else G (j+k+1))=_
     rw [if_neg (by omega)]
     congr 1
     omega
    ·show (if j+(k+1)=j then x else G (j+(k+1)))=_
     rw [if_neg (by omega)]
     congr 1
     omega
   obtain ⟨F2,je,za,eF⟩:=over f F
   obtain ⟨H2,qq,jW,eH⟩:=over h H
   obtain ⟨V2,kH,Mq,eV⟩:=over v V
   have F9:F2 (j+1)=F (j+1):=za 0
   have qt:H2 (j+1)=H (j+1):=jW 0
   refine ⟨F2,H2,V2,je,qq,?_,?_,?_,?_⟩
   ·rw [length_cons,eF,eH]
    exact f3
   ·constructor
    ·intro k ok hk
     cases k with
     | zero=>
      simp at hk;subst hk
      simp only [add_zero]
      rw [F9,je,kH]
      exact f1
     | succ k=>
      have:=T.ku k ok (by simpa using hk)
      rw [za,eF,eV,show j+1+(k+1)=j+1+k+1 by omega]
      exact this
    ·intro k ok hk
     cases k with
     | zero=>
      simp at hk;subst hk
      simp only [add_zero]
      rw [je]
      exact dJ
     | succ k=>
      rw [eF]
      exact T.tL k ok (by simpa using hk)
    ·intro k ok hk hw
     cases k with
     | zero=>
      simp at hk;subst hk
      simp only [add_zero] at hw⊢
      rw [je] at hw
      rw [qt,je,qq,kH,f2]
      exact hy hw
     | succ k=>
      rw [eF] at hw
      rw [jW,eF,eH,eV,show j+1+(k+1)=j+1+k+1 by omega]
      exact T.yes k ok (by simpa using hk) hw
    ·intro k ok hk hw
     cases k with
     | zero=>
      simp at hk;subst hk
      simp only [add_zero] at hw⊢
      rw [je] at hw
      rw [qt,qq,kH,f2]
      exact hn hw
     | succ k=>
      rw [eF] at hw
      rw [jW,eH,eV,show j+1+(k+1)=j+1+k+1 by omega]
      exact T.no k ok (by simpa using hk) hw
    ·intro e oe k ok lo he bR hk bk hw hlt cd
     cases k with
     | zero=>omega
     | succ k=>
      rw [eF] at hw⊢
      rw [eV]
      cases e with
      | zero=>
       simp at he;subst he
       simp only [add_zero] at cd⊢
       rw [qq]
       exact fp j h (hE bR) k ok lo (by simpa using hk) bk hw cd
      | succ e=>
       rw [eH]
       rw [show j+(e+1)=j+1+e by omega] at cd
       exact T.past e oe k ok lo (by simpa using he) bR (by simpa using hk) bk hw (by omega) cd
    ·intro k ok lo e oe hk bk hw he bR hlt cd
     cases e with
     | zero=>omega
     | succ e=>
      rw [jW,show j+1+(e+1)=j+1+e+1 by omega]
      cases k with
      | zero=>
       simp at hk;subst hk
       simp only [add_zero] at hw cd⊢
       rw [je] at hw⊢
       rw [kH]
       exact ff j lo f v (hL lo bk hw) e oe (by simpa using he) bR cd
      | succ k=>
       rw [eF] at hw⊢
       rw [eV]
       rw [show j+(k+1)=j+1+k by omega] at cd
       exact T.tF k ok lo e oe (by simpa using hk) bk hw (by simpa using he) bR (by omega) cd
    ·intro k ok a hk aQ hw
     cases k with
     | zero=>
      simp at hk;subst hk
      simp only [add_zero] at hw⊢
      rw [je] at hw
      obtain ⟨u,u1,u2⟩:=gH a aQ hw
      refine ⟨u,by rw [qt,kH,f2];exact u1,?_⟩
      intro e oe he bR hlt cd
      cases e with
      | zero=>omega
      | succ e=>
       rw [jW,show j+1+(e+1)=j+1+e+1 by omega,kH]
       exact ff j (.obj (.const v)) f u u2 e oe (by simpa using he) bR cd
     | succ k=>
      rw [eF] at hw
      obtain ⟨u,u1,u2⟩:=T.zi k ok a (by simpa using hk) aQ hw
      refine ⟨u,by rw [jW,eV,show j+1+(k+1)=j+1+k+1 by omega];exact u1,?_⟩
      intro e oe he bR hlt cd
      cases e with
      | zero=>omega
      | succ e=>
       rw [jW,show j+1+(e+1)=j+1+e+1 by omega,eV]
       rw [show j+(k+1)=j+1+k by omega] at cd
       exact u2 e oe (by simpa using he) bR (by omega) cd
   ·intro e Hh hm k ok lo hk bk hw cd
    cases k with
    | zero=>
     simp at hk;subst hk
     simp only [add_zero] at hw⊢
     rw [je] at hw⊢
     rw [kH]
     exact hp lo bk hw e Hh hm cd
    | succ k=>
     rw [eF] at hw⊢
     rw [eV]
     exact fp e Hh (hh _ hm) k ok lo (by simpa using hk) bk hw cd
   ·intro i lo zf u hm e oe he bR cd
    cases e with
    | zero=>
     simp at he;subst he
     simp only [add_zero]
     rw [qt,f2]
     exact hf bR i lo zf u hm cd
    | succ e=>
     rw [jW,show j+1+(e+1)=j+1+e+1 by omega]
     exact ff i lo zf u (hl _ hm) e oe (by simpa using he) bR cd
  have go:hK o.op.guard f->cE o.op.guard f=true->dS P o.op.op o.pre j ah ag f h (λah ag v h'=>dV P os (j+1) ah ag K (aX f o.op.dst v) h')->nq P (o::os) j ah ag K f h:=λdJ hw hd=>by
   have tm:o.op.op.aV=true->(∀a,o.op.op≠ .e (.fl a))->aR P o.op.op f h (λv h'=>ee o.pre h' ag/\dV P os (j+1) (ah++[(j,h)]) ag K (aX f o.op.dst v) h')->nq P (o::os) j ah ag K f h:=λhE gL hs=>by
    have zJ:∀lo,o.op.op≠ .l lo:=by intro lo e;rw [e] at hE;cases hE
    have ex:∃v h',aR P o.op.op f h (λu g=>u=v/\g=h')/\ee o.pre h' ag/\dV P os (j+1) (ah++[(j,h)]) ag K (aX f o.op.dst v) h':=by
     generalize o.op.op=io at hs⊢
     cases io with
     | p po=>
      simp only [aR,bK] at hs⊢
      split at hs
      ·exact ⟨_,_,⟨rfl,rfl⟩,hs⟩
      ·exact hs.elim
     | l lo=>
      simp only [aR,bK] at hs⊢
      split at hs
      ·exact ⟨_,_,⟨rfl,rfl⟩,hs⟩
      ·exact hs.elim
     | e eo=>
      simp only [aR,fe] at hs⊢
      split at hs
      ·exact ⟨_,_,⟨rfl,rfl⟩,hs⟩
      ·exact hs.elim
     | call g args=>
      obtain ⟨v,h',hc,hk⟩:=hs
      exact ⟨v,h',⟨v,h',hc,rfl,rfl⟩,hk⟩
     | ed x args=>
      simp only [aR,iF] at hs⊢
      split at hs
      ·obtain ⟨eL,v,h',hc,hk⟩:=hs
       exact ⟨v,h',⟨eL,v,h',hc,rfl,rfl⟩,hk⟩
      ·obtain ⟨eL,v,h',hc,hk⟩:=hs
       exact ⟨v,h',⟨eL,v,h',hc,rfl,rfl⟩,hk⟩
      ·exact hs.elim
    obtain ⟨v,h',s1,s2,s3⟩:=ex
    exact key v h' _ _ dJ s3 (λp hp=>by simp [hp]) (λp hp=>hp) (λ_=>by simp) (λlo e=>absurd e (zJ lo)) (λ_=>s1) (λhf=>by rw [hw] at hf;cases hf) (λlo e=>absurd e (zJ lo))
     (λ_ i lo ff u hm cd=>nB s2 i lo ff u hm cd) (λa e=>absurd e (gL a))
   cases aQ:o.op.op with
   | p po=>
    rw [aQ] at hd
    simp only [dS,bK] at hd
    split at hd
    ·rename_i v hv
     exact key v h _ _ dJ hd (λp hp=>hp) (λp hp=>hp) (λhE=>by rw [aQ] at hE;cases hE) (λlo e=>by rw [aQ] at e;cases e) (λ_=>by rw [aQ];simp [aR,bK,hv]) (λhf=>by rw [hw] at hf;cases hf)
      (λlo e=>by rw [aQ] at e;cases e) (λhE=>by rw [aQ] at hE;cases hE) (λa e=>by rw [aQ] at e;cases e)
    ·exact hd.elim
   | l lo=>
    rw [aQ] at hd
    simp only [dS,bK] at hd
    split at hd
    ·rename_i v hv
     exact key v h _ _ dJ hd.2 (λp hp=>hp) (λp hp=>by simp [hp]) (λhE=>by rw [aQ] at hE;cases hE) (λfM e _=>by rw [aQ] at e;cases e;simp) (λ_=>by rw [aQ];simp [aR,bK,hv]) (λhf=>by rw [hw] at hf;cases hf)
      (λfM e _ e' Hh hm cd=>by rw [aQ] at e;cases e;exact te hd.1 e' Hh hm cd) (λhE=>by rw [aQ] at hE;cases hE) (λa e=>by rw [aQ] at e;cases e)
    ·exact hd.elim
   | e eo=>
    cases eo with
    | fl a=>
     rw [aQ] at hd
     simp only [dS,fe] at hd
     split at hd
     ·rename_i v h' hv
      simp only [bK] at hd
      split at hd
      ·rename_i u hu
       exact key v h' _ _ dJ hd.2 (λp hp=>by simp [hp]) (λp hp=>by simp [hp]) (λ_=>by simp) (λlo e=>by rw [aQ] at e;cases e) (λ_=>by rw [aQ];simp [aR,fe,hv]) (λhf=>by rw [hw] at hf;cases hf)
        (λlo e=>by rw [aQ] at e;cases e) (λ_ i lo ff u hm cd=>nB hd.1 i lo ff u hm cd) (λa' _ _=>⟨u,hu,by simp⟩)
      ·exact hd.elim
     ·exact hd.elim
    | _=>exact tm (by rw [aQ];rfl) (λa e=>by rw [aQ] at e;cases e) (by rw [aQ] at hd⊢;exact hd)
   | call g args=>exact tm (by rw [aQ];rfl) (λa e=>by rw [aQ] at e;cases e) (by rw [aQ] at hd⊢;exact hd)
   | ed x args=>exact tm (by rw [aQ];rfl) (λa e=>by rw [aQ] at e;cases e) (by rw [aQ] at hd⊢;exact hd)
  have skip:hK o.op.guard f->cE o.op.guard f=false->jV o.op.op o.pre j ah ag h (λah ag v h'=>dV P os (j+1) ah ag K (aX f o.op.dst v) h')->nq P (o::os) j ah ag K f h:=λdJ hw hd=>by
   unfold jV at hd
   split at hd
   ·rename_i hE
    exact key undef h _ _ dJ hd (λp hp=>hp) (λp hp=>hp) (λbR=>by rw [hE] at bR;cases bR) (λlo _ hf=>by rw [hw] at hf;cases hf) (λhf=>by rw [hw] at hf;cases hf) (λ_=>⟨rfl,rfl⟩)
     (λlo _ hf=>by rw [hw] at hf;cases hf) (λbR=>by rw [hE] at bR;cases bR) (λa _ hf=>by rw [hw] at hf;cases hf)
   ·rename_i hE
    exact key undef h _ _ dJ hd.2 (λp hp=>by simp [hp]) (λp hp=>hp) (λ_=>by simp) (λlo _ hf=>by rw [hw] at hf;cases hf) (λhf=>by rw [hw] at hf;cases hf) (λ_=>⟨rfl,rfl⟩)
     (λlo _ hf=>by rw [hw] at hf;cases hf) (λ_ i lo ff u hm cd=>nB hd.1 i lo ff u hm cd) (λa _ hf=>by rw [hw] at hf;cases hf)
  simp only [dV] at hi
  split at hi
  ·rename_i dK
   exact go (by rw [dK];trivial) (by rw [dK];rfl) hi
  ·rename_i s b dK
   obtain ⟨e1,e2⟩:=qD hi
   rcases e2 with ⟨e2,e3⟩ | ⟨e2,e3⟩
   ·exact go (by rw [dK];exact e1) (by rw [dK];exact e2) e3
   ·exact skip (by rw [dK];exact e1) (by rw [dK];exact e2) e3
def iH (g:Option (Nat×Bool)) (l:List dA):List aK:=l.map λo=>⟨⟨o.dst,o.op,g⟩,o.pre⟩
def iI:List (Option (Nat×Bool)×List dA)->List aK
 | []=>[]
 | (g,l)::gs=>iH g l++iI gs
theorem tj:∀os:List aK,iI (jU os)=os
 | []=>rfl
 | o::os=>by
  have ih:=tj os
  simp only [jU]
  cases hg:jU os with
  | nil=>
   rw [hg] at ih
   simp only [iI] at ih
   subst ih
   simp [iI,iH]
  | cons a gs=>
   obtain ⟨g,l⟩:=a
   rw [hg] at ih
   simp only
   split
   ·rename_i he
    simp only [iI,iH,map_cons,cons_append] at ih⊢
    rw [ih,<-he]
   ·simp only [iI,iH,map_cons,List.map_nil,cons_append,List.nil_append] at ih⊢
    rw [ih]
theorem FI {l:List aK} (h:l.all (λo=>leaves o.op.guard o.op.dst)=true):∀g m,(g,m)∈jU l->∀o∈m,leaves g o.dst=true:=by
 intro g m hm o ho
 have dr:(⟨⟨o.dst,o.op,g⟩,o.pre⟩:aK)∈iI (jU l):=by
  generalize jU l=gs at hm
  induction gs with
  | nil=>simp at hm
  | cons a gs ih=>
   obtain ⟨g',m'⟩:=a
   simp only [iI,List.mem_append]
   rcases mem_cons.1 hm with he | hm
   ·cases he
    left
    simp only [iH,List.mem_map]
    exact ⟨o,ho,rfl⟩
   ·exact .inr (ih hm)
 rw [tj] at dr
 rw [all_eq_true] at h
 exact h _ dr
theorem y8 {P:Program} {io:cN} {pre j:Nat} {ah:List (Nat×ad)} {ag:bn} {f:Nat->Value} {h:ad} {K K':List (Nat×ad)->bn->Value->ad->Prop} (hm:∀a b v h,K a b v h->K' a b v h)
  (hs:dS P io pre j ah ag f h K):dS P io pre j ah ag f h K':=by
 cases io with
 | p po=>simp only [dS,bK] at hs⊢;split at hs <;> first | exact hm _ _ _ _ hs | exact hs.elim
 | l lo=>simp only [dS,bK] at hs⊢;split at hs <;> first | exact ⟨hs.1,hm _ _ _ _ hs.2⟩ | exact hs.elim
 | e eo=>
  cases eo with
  | fl a=>
   simp only [dS,fe,bK] at hs⊢
   split at hs
   ·split at hs <;> first | exact ⟨hs.1,hm _ _ _ _ hs.2⟩ | exact hs.elim
   ·exact hs.elim
  | _=>simp only [dS,fe] at hs⊢;split at hs <;> first | exact ⟨hs.1,hm _ _ _ _ hs.2⟩ | exact hs.elim
 | call g args=>exact gO.mono hs λv h hk=>⟨hk.1,hm _ _ _ _ hk.2⟩
 | ed x args=>simp only [dS,iF] at hs⊢;split at hs <;> first | exact ⟨hs.1,hs.2.mono λv h hk=>⟨hk.1,hm _ _ _ _ hk.2⟩⟩ | exact hs.elim
theorem y7 {io:cN} {pre j:Nat} {ah:List (Nat×ad)} {ag:bn} {h:ad} {K K':List (Nat×ad)->bn->Value->ad->Prop} (hm:∀a b v h,K a b v h->K' a b v h)
  (hs:jV io pre j ah ag h K):jV io pre j ah ag h K':=by
 unfold jV at hs⊢
 split at hs
 ·exact hm _ _ _ _ hs
 ·exact ⟨hs.1,hm _ _ _ _ hs.2⟩
theorem wz {f:Nat->Value} {d:Option Nat} {s:Nat} (hd:d≠some s) (v:Value):aX f d v s=f s:=by
 cases ho:d with
 | none=>rfl
 | some x=>
  have:s≠x:=by rintro rfl;exact hd ho
  simp [aX,iy,this]
theorem zj {P:Program} {g:Option (Nat×Bool)} {r:List aK} {K:(Nat->Value)->ad->Prop}:∀{l:List dA} {j:Nat} {ah:List (Nat×ad)} {ag:bn} {f:Nat->Value} {h:ad},(∀o∈l,leaves g o.dst=true)->
  (∀s b,g=some (s,b)->jB (f s)=false/\gu (f s) b=true)->
  fF P l j ah ag (λah ag f h=>dV P r (j+l.length) ah ag K f h) f h->dV P (iH g l++r) j ah ag K f h:=by
 intro l
 induction l with
 | nil=>intro j ah ag f h _ _ hk;exact hk
 | cons o l ih=>
  intro j ah ag f h hl hg hk
  simp only [fF] at hk
  simp only [iH,map_cons,cons_append,dV]
  have step:dS P o.op o.pre j ah ag f h λah ag v h'=>dV P (iH g l++r) (j+1) ah ag K (aX f o.dst v) h':=by
   refine y8 (λa b v h' bH=>?_) hk
   refine ih (λo' bg=>hl o' (by simp [bg])) ?_ ?_
   ·intro s bb hs
    have hd:o.dst≠some s:=by have:=hl o (by simp);rw [hs] at this;simpa [leaves] using this
    rw [wz hd]
    exact hg s bb hs
   ·rw [length_cons] at bH
    rw [show j+1+l.length=j+(l.length+1) by omega]
    exact bH
  cases dK:g with
  | none=>rw [dK] at step;exact step
  | some sb=>
   obtain ⟨s,b⟩:=sb
   obtain ⟨e1,e2⟩:=hg s b dK
   rw [dK] at step
   exact tO e1 (λ_=>step) (λh=>by rw [e2] at h;cases h)
theorem GD {P:Program} {s:Nat} {b:Bool} {r:List aK} {K:(Nat->Value)->ad->Prop}:∀{l:List dA} {j:Nat} {ah:List (Nat×ad)} {ag:bn} {f:Nat->Value} {h:ad},(∀o∈l,leaves (some (s,b)) o.dst=true)->
  jB (f s)=false->gu (f s) b=false->
  jm l j ah ag (λah ag f h=>dV P r (j+l.length) ah ag K f h) f h->dV P (iH (some (s,b)) l++r) j ah ag K f h:=by
 intro l
 induction l with
 | nil=>intro j ah ag f h _ _ _ hk;exact hk
 | cons o l ih=>
  intro j ah ag f h hl e1 e2 hk
  simp only [jm] at hk
  simp only [iH,map_cons,cons_append,dV]
  refine tO e1 (λh=>by rw [e2] at h;cases h) (λ_=>?_)
  refine y7 (λa c v h' bH=>?_) hk
  have hd:o.dst≠some s:=by have:=hl o (by simp);simpa [leaves] using this
  refine ih (λo' bg=>hl o' (by simp [bg])) (by rw [wz hd];exact e1) (by rw [wz hd];exact e2) ?_
  rw [length_cons] at bH
  rw [show j+1+l.length=j+(l.length+1) by omega]
  exact bH
theorem tI {P:Program} {K K':List (Nat×ad)->bn->(Nat->Value)->ad->Prop} (hm:∀a b f h,K a b f h->K' a b f h):∀{l:List dA} {j:Nat} {ah:List (Nat×ad)} {ag:bn} {f:Nat->Value} {h:ad},
  fF P l j ah ag K f h->fF P l j ah ag K' f h
 | [],_,_,_,_,_,hk=>hm _ _ _ _ hk
 | _::_,_,_,_,_,_,hk=>y8 (λ_ _ _ _ bH=>tI hm bH) hk
theorem zk {K K':List (Nat×ad)->bn->(Nat->Value)->ad->Prop} (hm:∀a b f h,K a b f h->K' a b f h):∀{l:List dA} {j:Nat} {ah:List (Nat×ad)} {ag:bn} {f:Nat->Value} {h:ad},
  jm l j ah ag K f h->jm l j ah ag K' f h
 | [],_,_,_,_,_,hk=>hm _ _ _ _ hk
 | _::_,_,_,_,_,_,hk=>y7 (λ_ _ _ _ bH=>zk hm bH) hk
theorem GC {P:Program} {K:(Nat->Value)->ad->Prop}:∀{gs:List (Option (Nat×Bool)×List dA)} {j:Nat} {ah:List (Nat×ad)} {ag:bn} {f:Nat->Value} {h:ad},(∀g l,(g,l)∈gs->∀o∈l,leaves g o.dst=true)->
  fE P gs j ah ag K f h->dV P (iI gs) j ah ag K f h:=by
 intro gs
 induction gs with
 | nil=>intro j ah ag f h _ hk;exact hk
 | cons a gs ih=>
  obtain ⟨g,l⟩:=a
  intro j ah ag f h hl hk
  have iN:∀g' l',(g',l')∈gs->∀o∈l',leaves g' o.dst=true:=λg' l' hm=>hl g' l' (by simp [hm])
  simp only [iI]
  cases g with
  | none=>
   simp only [fE] at hk
   exact zj (hl none l (by simp)) (λs b hs=>by cases hs) (tI (λa b f h bH=>ih iN bH) hk)
  | some sb=>
   obtain ⟨s,b⟩:=sb
   simp only [fE] at hk
   obtain ⟨e1,e2⟩:=qD hk
   rcases e2 with ⟨e2,e3⟩ | ⟨e2,e3⟩
   ·exact zj (hl _ l (by simp)) (λs' b' hs=>by cases hs;exact ⟨e1,e2⟩) (tI (λa b f h bH=>ih iN bH) e3)
   ·exact GD (hl _ l (by simp)) e1 e2 (zk (λa b f h bH=>ih iN bH) e3)
end
section
def bj (V:Nat->Value) (S:List Nat):List aK->Nat->(Nat->Value)->(Nat->Value)
 | [],_,f=>f
 | d::ds,i,f=>bj V S ds (i+1) (if S.contains i then aX f d.op.dst (V i) else f)
theorem jX {V:Nat->Value} {S S':List Nat} {t:Nat}:∀{l:List aK} {i:Nat} {f f':Nat->Value},(∀k d,l[k]?=some d->d.op.dst=some t->(i+k∈S↔i+k∈S'))->f t=f' t->bj V S l i f t=bj V S' l i f' t
 | [],i,f,f',_,hf=>hf
 | d::ds,i,f,f',h,hf=>by
  simp only [bj]
  refine jX (λk d' hk hd=>?_) ?_
  ·have:=h (k+1) d' (by simpa using hk) hd
   rw [show i+(k+1)=i+1+k by omega] at this
   exact this
  ·by_cases hd:d.op.dst=some t
   ·have:=h 0 d rfl hd
    simp only [add_zero] at this
    by_cases hi:i∈S
    ·simp [hi,this.1 hi,hd,aX,iy]
    ·have dd:i∉S':=λh=>hi (this.2 h)
     simp [hi,dd,hf]
   ·have bc:∀v g,aX g d.op.dst v t=g t:=by
     intro v g
     cases nQ:d.op.dst with
     | none=>rfl
     | some x=>
      have:t≠x:=by rintro rfl;exact hd nQ
      simp [aX,iy,this]
    split <;> split <;> simp [bc,hf]
theorem tE {V:Nat->Value} {S:List Nat} {t:Nat}:∀{l:List aK} {i:Nat} {f:Nat->Value} {k:Nat} {d:aK},l[k]?=some d->d.op.dst=some t->i+k∈S->
  (∀k' d',l[k']?=some d'->d'.op.dst=some t->k<k'->i+k'∉S)->bj V S l i f t=V (i+k)
 | [],i,f,k,d,hk,_,_,_=>by simp at hk
 | d0::ds,i,f,k,d,hk,hd,hS,n0=>by
  simp only [bj]
  cases k with
  | zero=>
   simp at hk;subst hk
   simp only [add_zero] at hS⊢
   have:bj V S ds (i+1) (if S.contains i=true then aX f d0.op.dst (V i) else f) t=bj V [] ds (i+1) (if S.contains i=true then aX f d0.op.dst (V i) else f) t:=by
    refine jX (λk' d' bH jq=>?_) rfl
    have:=n0 (k'+1) d' (by simpa using bH) jq (by omega)
    rw [show i+(k'+1)=i+1+k' by omega] at this
    simp [this]
   rw [this]
   have lh:∀(l:List aK) (i:Nat) (f:Nat->Value),bj V [] l i f=f:=by
    intro l
    induction l with
    | nil=>intro i f;rfl
    | cons a l ih=>intro i f;simp [bj,ih]
   rw [lh]
   simp [hS,hd,aX,iy]
  | succ k=>
   have:=tE (V:=V) (S:=S) (l:=ds) (i:=i+1) (f:=if S.contains i=true then aX f d0.op.dst (V i) else f) (k:=k) (d:=d) (by simpa using hk) hd (by rw [show i+1+k=i+(k+1) by omega];exact hS) (by
    intro k' d' bH jq hlt
    have:=n0 (k'+1) d' (by simpa using bH) jq (by omega)
    rw [show i+(k'+1)=i+1+k' by omega] at this
    exact this)
   rw [this]
   congr 1
   omega
theorem nI {P:Program} {l:List aK} {F:Nat->Nat->Value} {H:Nat->ad} {V:Nat->Value} (T:Trace P l 0 F H V):∀(r:List aK) (i:Nat) (S:List Nat) (j:Nat),(∀k,r[k]?=l[i+k]?)->(∀k,k∈S↔k<j)->i<=j->j<=i+r.length->
  bj V S r i (F i)=F j
 | [],i,S,j,_,_,h1,h2=>by
  simp at h2
  obtain rfl:i=j:=by omega
  rfl
 | d::r,i,S,j,hr,hS,h1,h2=>by
  simp only [bj]
  have h0:=hr 0
  simp only [List.getElem?_cons_zero,add_zero] at h0
  have hu:=T.ku i d h0.symm
  simp only [zero_add] at hu
  by_cases gJ:i<j
  ·have:i∈S:=(hS i).2 gJ
   simp only [List.contains_eq_mem,this,decide_true,if_true]
   rw [<-hu]
   exact nI T r (i+1) S j (λk=>by have:=hr (k+1);rw [show i+(k+1)=i+1+k by omega] at this;simpa using this) hS (by omega) (by simp at h2;omega)
  ·obtain rfl:i=j:=by omega
   have Hx:i∉S:=λh=>by have:=(hS i).1 h;omega
   simp only [List.contains_eq_mem,Hx,decide_false,Bool.false_eq_true,if_false]
   have Ie:∀(r:List aK) (k:Nat) (f:Nat->Value),i<=k->bj V S r k f=f:=by
    intro r
    induction r with
    | nil=>intro k f _;rfl
    | cons a r ih=>
     intro k f hk
     have:k∉S:=λh=>by have:=(hS k).1 h;omega
     simp [bj,this,ih (k+1) f (by omega)]
   exact Ie r (i+1) _ (by omega)
def nh (es:List (List Nat)) (S:List Nat):Prop:=∀j e,j∈S->e∈(es.getD j [])->e∈S
theorem B2 {fX:List Nat}:∀{es:List Nat} {i:Nat},(jJ fX es).testBit i=true->∃e∈es,i=e∨(fX.getD e 0).testBit i=true
 | [],i,h=>by simp [jJ] at h
 | e::es,i,h=>by
  simp only [jJ,Nat.testBit_or,or_eq_true] at h
  rcases h with (h | h) | h
  ·refine ⟨e,by simp,.inl ?_⟩
   rw [Nat.testBit_two_pow] at h
   exact (by simpa using h:e=i).symm
  ·exact ⟨e,by simp,.inr h⟩
  ·obtain ⟨e',h1,h2⟩:=B2 h
   exact ⟨e',by simp [h1],h2⟩
theorem Fw:∀{es:List (List Nat)} {acc:List Nat} {all:List (List Nat)},(∀k,es[k]?=all[acc.length+k]?)->(∀j i,j<acc.length->(acc.getD j 0).testBit i=true->∃e∈all.getD j [],i=e∨((cZ es acc).getD e 0).testBit i=true)->
  (∀j i,((cZ es acc).getD j 0).testBit i=true->∃e∈all.getD j [],i=e∨((cZ es acc).getD e 0).testBit i=true):=by
 intro es
 induction es with
 | nil=>
  intro acc all _ hacc j i h
  simp only [cZ] at h⊢hacc
  by_cases hj:j<acc.length
  ·exact hacc j i hj h
  ·have:acc.getD j 0=0:=by simp [getD,le_of_not_lt hj]
   rw [this] at h
   simp at h
 | cons e0 es ih=>
  intro acc all dT hacc j i h
  simp only [cZ] at h⊢hacc
  have jC:∀(es:List (List Nat)) (acc:List Nat) (k:Nat),k<acc.length->(cZ es acc).getD k 0=acc.getD k 0:=by
   intro es
   induction es with
   | nil=>intro acc k _;rfl
   | cons a es IF=>
    intro acc k hk
    simp only [cZ]
    rw [IF _ k (by simp;omega)]
    simp [getD,getElem?_append_left hk]
  refine ih (acc:=acc++[jJ acc e0]) (all:=all) ?_ ?_ j i h
  ·intro k
   have:=dT (k+1)
   simp only [List.getElem?_cons_succ] at this
   rw [this]
   congr 1
   simp
   omega
  ·intro j' i' nW hb
   by_cases hlt:j'<acc.length
   ·rw [show (acc++[jJ acc e0]).getD j' 0=acc.getD j' 0 by simp [getD,getElem?_append_left hlt]] at hb
    exact hacc j' i' hlt hb
   ·obtain rfl:j'=acc.length:=by simp at nW;omega
    rw [show (acc++[jJ acc e0]).getD acc.length 0=jJ acc e0 by simp [getD]] at hb
    obtain ⟨e,h1,h2⟩:=B2 hb
    have h0:=dT 0
    simp only [List.getElem?_cons_zero,add_zero] at h0
    refine ⟨e,by simp [getD,<-h0,h1],?_⟩
    rcases h2 with h2 | h2
    ·exact .inl h2
    ·right
     have G8:e<acc.length:=by
      apply byContradiction
      intro dc
      have:acc.getD e 0=0:=by simp [getD,le_of_not_lt dc]
      rw [this] at h2
      simp at h2
     rw [jC _ _ _ (by simp;omega)]
     simpa [getD,getElem?_append_left G8] using h2
theorem rC {es:List (List Nat)} {S:List Nat} (hS:nh es S) (kR:∀j e,e∈es.getD j []->e<j):∀(j i:Nat),(∀e∈es.getD j [],e∈S)->((cZ es []).getD j 0).testBit i=true->i∈S:=by
 intro j
 induction j using Nat.strongRecOn with
 | _ j ih=>
  intro i he hb
  obtain ⟨e,h1,h2⟩:=Fw (es:=es) (acc:=[]) (all:=es) (λk=>by simp) (λj i hj=>by simp at hj) j i hb
  rcases h2 with rfl | h2
  ·exact he _ h1
  ·exact ih e (kR j e h1) i (λe' cW=>hS e e' (he e h1) cW) h2
end
section
section
variable {P : Program} {N : Nat}
theorem sa {l:List aK} {F:Nat->Nat->Value} {H:Nat->ad} {V:Nat->Value} (T:Trace P l 0 F H V) {i:Nat}:∀(d:Nat),i+d<=l.length->(∀e oe,l[e]?=some oe->oe.op.op.aV=true->¬(i<=e/\e<i+d))->H (i+d)=H i
 | 0,_,_=>rfl
 | d+1,hl,hE=>by
  have ih:=sa T d (by omega) (λe oe h1 h2 h3=>hE e oe h1 h2 ⟨h3.1,by omega⟩)
  have hlt:i+d<l.length:=by omega
  have az:l[i+d]?=some l[i+d]:=getElem?_eq_getElem hlt
  have qL:l[i+d].op.op.aV=false:=by
   cases hq:l[i+d].op.op.aV with
   | false=>rfl
   | true=>exact absurd ⟨by omega,by omega⟩ (hE (i+d) _ az hq)
  rw [show i+(d+1)=i+d+1 by omega]
  rw [<-ih]
  have hy:=T.yes (i+d) _ az
  have hn:=T.no (i+d) _ az
  simp only [zero_add] at hy hn
  cases hw:cE l[i+d].op.guard (F (i+d)) with
  | false=>exact (hn hw).2
  | true=>
   have hs:=hy hw
   generalize l[i+d].op.op=io at hs qL
   cases io with
   | p po=>
    simp only [aR,bK] at hs
    split at hs
    ·exact hs.2.symm
    ·exact hs.elim
   | l lo=>
    simp only [aR,bK] at hs
    split at hs
    ·exact hs.2.symm
    ·exact hs.elim
   | e eo=>cases qL
   | call g args=>cases qL
   | ed x args=>cases qL
theorem gB {l:List aK} {F:Nat->Nat->Value} {H:Nat->ad} {V:Nat->Value} (T:Trace P l 0 F H V) {i k:Nat} (ME:i<=k) (hk:k<=l.length) (hE:∀e oe,l[e]?=some oe->oe.op.op.aV=true->¬(i<=e/\e<k)):H k=H i:=by
 have:=sa T (i:=i) (k-i) (by omega) (λe oe h1 h2 h3=>hE e oe h1 h2 ⟨h3.1,by omega⟩)
 rw [show i+(k-i)=k by omega] at this
 exact this
def so (l:List aK) (S:List Nat) (m:Nat):Prop:=∀e oe,l[e]?=some oe->oe.op.op.aV=true->(e∈S↔e<m)
theorem oQ {l:List aK} (h:rv l=true) {i j:Nat} {oi oj:aK} (hi:l[i]?=some oi) (hj:l[j]?=some oj):mU oj j oi i=true:=by
 unfold rv at h
 rw [all_eq_true] at h
 have h1:=h (oj,j) (List.mem_zipIdx_iff_getElem?.2 hj)
 simp only at h1
 rw [all_eq_true] at h1
 exact h1 (oi,i) (List.mem_zipIdx_iff_getElem?.2 hi)
theorem BV {oi oj:aK} {i j t:Nat} (h:mU oj j oi i=true) (bc:i≠j) (hd:oi.op.dst=some t) (ht:iU oj t=true):(if i<j then oj.pre.testBit i else oi.pre.testBit j)=true:=by
 unfold mU at h
 rw [hd] at h
 simp only [and_eq_true,or_eq_true,beq_iff_eq,ht,Bool.not_true,Bool.false_eq_true,false_or] at h
 rcases h.1 with h | h
 ·exact absurd h bc
 ·exact h
theorem vP {oi oj:aK} {i j:Nat} (h:mU oj j oi i=true) (hlt:i<j) (hi:oi.op.op.aV=true) (hj:oj.op.op.aV=true):oj.pre.testBit i=true:=by
 unfold mU at h
 simp only [and_eq_true,hlt,decide_true,hi,hj,Bool.and_self,Bool.not_true,Bool.false_or] at h
 exact h.2
theorem FJ {ops:Array Oper} {l:List aK} {F:Nat->Nat->Value} {H:Nat->ad} {V:Nat->Value} (T:Trace P l 0 F H V) (hlen:l.length=ops.size)
  (G4:∀(k:Nat) (o:Oper) (d:aK),ops[k]?=some o->l[k]?=some d->kF P N ops o=some d.op)
  (cd:∀k d,l[k]?=some d->d.pre=(cZ (ops.toList.map bE) []).getD k 0)
  (kR:∀j e,e∈(ops.toList.map bE).getD j []->e<j) (ke:rv l=true) {S r:List Nat} (hv:kC ops S r):
  nh (ops.toList.map bE) S->(∀i∈S,i<ops.size)->∀m,m<=l.length->so l S m->∀S' B ρ a w,bD P N B ρ (bj V S l 0 (F 0)) (H m) a w->∀Q:Exit->Act->World->Prop,
   (∀ae a' w',bD P N B ae (F l.length) (H l.length) a' w'->Tr ρ (H m) w ae (H l.length) w'->Q .normal a' w')->wpOpsIn (FR S') 0 P ops Q r a w:=by
 induction hv with
 | nil dT=>
  rename_i S
  intro bL hlt m hm bZ S' B ρ a w R Q hq
  have hF:bj V S l 0 (F 0)=F l.length:=by
   have h1:=nI T l 0 (List.range l.length) l.length (λk=>by simp) (λk=>by simp) (by omega) (by omega)
   rw [<-h1]
   funext t
   refine jX (λk d hk _=>?_) rfl
   have qJ:=(bw hk).1
   simp only [zero_add,mem_range]
   exact ⟨λ_=>qJ,λ_=>dT k (by omega)⟩
  have hH:H l.length=H m:=by
   refine gB T hm (le_refl _) ?_
   rintro e oe he hE ⟨h1,h2⟩
   have:=(bZ e oe he hE).1 (dT e (by omega))
   omega
  rw [hF] at R
  simp only [wpOpsIn]
  refine hq ρ a w (by rw [hH];exact R) ?_
  rw [hH]
  exact Tr.refl R.heap
 | cons ju hY kW Io ih=>
  rename_i S j o r
  intro bL hlt m hm bZ S' B ρ a w R Q hq
  have mC:j<ops.size:=(Array.getElem?_eq_some_iff.1 ju).1
  have az:l[j]?=some (l[j]'(by omega)):=getElem?_eq_getElem _
  generalize G5:l[j]'(by omega)=d at az
  have hc:=G4 j o d ju az
  obtain ⟨q1,q2,q3,q4,q5⟩:=qi hc
  have dU:(ops.toList.map bE).getD j []=bE o:=by
   simp [getD,ju]
  have iK:nh (ops.toList.map bE) (j::S):=by
   intro k e hk he
   rcases mem_cons.1 hk with rfl | hk
   ·rw [dU] at he
    exact mem_cons_of_mem _ (kW e he)
   ·exact mem_cons_of_mem _ (bL k e hk he)
  have before:∀i,d.pre.testBit i=true->i∈S:=by
   intro i hb
   rw [cd j d az] at hb
   exact rC bL kR j i (by rw [dU];exact kW) hb
  have behind:∀k dk,l[k]?=some dk->dk.pre.testBit j=true->k∉S:=by
   intro k dk hk hb nZ
   rw [cd k dk hk] at hb
   exact hY (rC bL kR k j (λe he=>bL k e nZ he) hb)
  have slot:∀t,iU d t=true->bj V S l 0 (F 0) t=F j t:=by
   intro t ht
   have h1:=nI T l 0 (List.range j) j (λk=>by simp) (λk=>by simp) (by omega) (by omega)
   rw [<-h1]
   refine jX (λk dk hk kV=>?_) rfl
   simp only [zero_add,mem_range]
   by_cases jt:k=j
   ·subst jt
    exact ⟨λh=>absurd h hY,λh=>absurd h (Nat.lt_irrefl _)⟩
   ·have hp:=BV (oQ ke hk az) jt kV ht
    by_cases cr:k<j
    ·rw [if_pos cr] at hp
     exact ⟨λ_=>cr,λ_=>before k hp⟩
    ·rw [if_neg cr] at hp
     exact ⟨λh=>absurd h (behind k dk hk hp),λh=>absurd h cr⟩
  have lk:∀t∈d.op.reads,bj V S l 0 (F 0) t=F j t:=λt ht=>slot t (by simp [iU,ht])
  have mD:∀t∈tmpsOf d.op.op.cj,bj V S l 0 (F 0) t=F j t:=λt ht=>lk t (by simp [cH.reads,ht])
  have oz:cE d.op.guard (bj V S l 0 (F 0))=cE d.op.guard (F j):=by
   cases hg:d.op.guard with
   | none=>rfl
   | some sb=>
    obtain ⟨s,b⟩:=sb
    simp only [cE]
    rw [lk s (by simp [cH.reads,hg])]
  have tY:hK d.op.guard (bj V S l 0 (F 0)):=by
   have:=T.tL j d az
   simp only [zero_add] at this
   cases hg:d.op.guard with
   | none=>trivial
   | some sb=>
    obtain ⟨s,b⟩:=sb
    rw [hg] at this
    simp only [hK] at this⊢
    rw [lk s (by simp [cH.reads,hg])]
    exact this
  have oA:=rZ q4 R tY
  have gj:bj V (j::S) l 0 (F 0)=aX (bj V S l 0 (F 0)) o.dst (V j):=by
   rw [<-q5]
   funext t
   by_cases hT:d.op.dst=some t
   ·have h1:=tE (V:=V) (S:=j::S) (l:=l) (i:=0) (f:=F 0) (k:=j) (d:=d) az hT (by simp) (by
     intro k' d' bH jq cr
     have hp:=BV (oQ ke bH az) (by omega) jq (by simp [iU,hT])
     rw [if_neg (by omega)] at hp
     have:=behind k' d' bH hp
     simp only [zero_add,mem_cons,not_or]
     exact ⟨by omega,this⟩)
    rw [h1]
    simp [hT,aX,iy]
   ·have h1:bj V (j::S) l 0 (F 0) t=bj V S l 0 (F 0) t:=by
     refine jX (λk dk hk kV=>?_) rfl
     have jt:k≠j:=by
      rintro rfl
      rw [az] at hk
      cases hk
      exact hT kV
     simp [jt]
    rw [h1]
    cases nQ:d.op.dst with
    | none=>rfl
    | some x=>
     have:t≠x:=by rintro rfl;exact hT nQ
     simp [aX,iy,this]
  have hlt2:∀i∈j::S,i<ops.size:=by
   intro i hi
   rcases mem_cons.1 hi with rfl | hi
   ·exact mC
   ·exact hlt i hi
  -- the o9,where the Jw writes memory
  have pa:d.op.op.aV=true->H m=H j/\so l (j::S) (j+1):=by
   intro hE
   have gi:m<=j:=by
    apply byContradiction
    intro h
    exact hY ((bZ j d az hE).2 (by omega))
   refine ⟨?_,?_⟩
   ·refine (gB T gi (by omega) ?_).symm
    rintro e oe he eB ⟨h1,h2⟩
    have hb:=vP (oQ ke he az) h2 eB hE
    have:=(bZ e oe he eB).1 (before e hb)
    omega
   ·intro e oe he eB
    rcases Nat.lt_trichotomy e j with cr | rfl | kY
    ·have hb:=vP (oQ ke he az) cr eB hE
     exact ⟨λ_=>by omega,λ_=>mem_cons_of_mem _ (before e hb)⟩
    ·exact ⟨λ_=>by omega,λ_=>by simp⟩
    ·have hb:=vP (oQ ke az he) kY hE eB
     have:=behind e oe he hb
     constructor
     ·intro h
      rcases mem_cons.1 h with h | h
      ·omega
      ·exact absurd h this
     ·intro h;omega
  have mY:d.op.op.aV=false->so l (j::S) m:=by
   intro hE e oe he eB
   have bc:e≠j:=by
    rintro rfl
    rw [az] at he
    cases he
    rw [hE] at eB
    cases eB
   rw [<-bZ e oe he eB]
   simp [bc]
  have dC:=T.yes j d az
  have aH:=T.no j d az
  simp only [zero_add] at dC aH
  simp only [wpOpsIn,ju]
  by_cases hw:cE d.op.guard (F j)=true
  ·rw [if_pos (by rw [oA,oz,hw])]
   have hs:=dC hw
   by_cases hE:d.op.op.aV=true
   ·obtain ⟨e1,e2⟩:=pa hE
    rw [<-rR mD,<-e1] at hs
    obtain ⟨v,h',st,hv,hh⟩:=mR (N:=N) q3 q1 hs
    subst hv
    subst hh
    refine st S' B ρ a w R _ _ ?_
    intro ae v' w' jv HH TT
    have R':=R.jK q2 TT jv HH
    rw [<-gj] at R'
    exact ih iK hlt2 (j+1) (by omega) e2 S' B ae _ w' R' Q λfk ja er gX jP=>hq fk ja er gX (TT.trans jP)
   ·have bR:d.op.op.aV=false:=by simpa using hE
    -- LW is looked at has one value at this o9 and in the MX order
    have eX:aR P d.op.op (bj V S l 0 (F 0)) (H m) λv h'=>v=V j/\h'=H m:=by
     rw [rR mD]
     cases aQ:d.op.op with
     | p po=>
      rw [aQ] at hs
      simp only [aR,bK] at hs⊢
      split at hs
      ·exact ⟨hs.1,trivial⟩
      ·exact hs.elim
     | l lo=>
      have ie:bM lo (ev (F j)) (H m)=some (V j):=by
       have mG:bM lo (ev (F j)) (H j)=some (V j):=by
        rw [aQ] at hs
        simp only [aR,bK] at hs
        split at hs
        ·rename_i v hv
         rw [hv,hs.1]
        ·exact hs.elim
       rcases Nat.le_total m j with gi | gi
       ·by_cases hex:∃e oe,l[e]?=some oe/\oe.op.op.aV=true/\m<=e/\e<j
        ·-- the least of them
         have key:∀n,(∃e oe,l[e]?=some oe/\oe.op.op.aV=true/\m<=e/\e<j/\e<n)->∃e oe,l[e]?=some oe/\oe.op.op.aV=true/\m<=e/\e<j/\∀e' cQ,l[e']?=some cQ->cQ.op.op.aV=true->¬(m<=e'/\e'<e):=by
          intro n
          induction n with
          | zero=>rintro ⟨e,oe,_,_,_,_,h⟩;omega
          | succ n jz=>
           rintro ⟨e,oe,h1,h2,h3,h4,h5⟩
           by_cases bk:∃e oe,l[e]?=some oe/\oe.op.op.aV=true/\m<=e/\e<j/\e<n
           ·exact jz bk
           ·refine ⟨e,oe,h1,h2,h3,h4,?_⟩
            rintro e' cQ k1 k2 ⟨k3,k4⟩
            exact bk ⟨e',cQ,k1,k2,k3,by omega,by omega⟩
         obtain ⟨e0,lG,g1,g2,g3,g4⟩:=hex
         obtain ⟨e,oe,h1,h2,h3,h4,h5⟩:=key j ⟨e0,lG,g1,g2,g3,g4,g4⟩
         have kO:H e=H m:=gB T h3 (by omega) (λe' cQ k1 k2 k3=>h5 e' cQ k1 k2 k3)
         rw [<-kO]
         have lg:d.pre.testBit e=false:=by
          cases hb:d.pre.testBit e with
          | false=>rfl
          | true=>
           have:=(bZ e oe h1 h2).1 (before e hb)
           omega
         have:=T.past e oe j d lo h1 h2 az aQ (by simpa using hw) h4 (by simpa using lg)
         simpa using this
        ·have kP:H j=H m:=gB T gi (by omega) (λe oe h1 h2 h3=>hex ⟨e,oe,h1,h2,h3⟩)
         rw [<-kP]
         exact mG
       ·by_cases hex:∃e oe,l[e]?=some oe/\oe.op.op.aV=true/\j<=e/\e<m
        ·have key:∀n,(∃e oe,l[e]?=some oe/\oe.op.op.aV=true/\j<=e/\e<m/\m<=e+n)->∃e oe,l[e]?=some oe/\oe.op.op.aV=true/\j<=e/\e<m/\∀e' cQ,l[e']?=some cQ->cQ.op.op.aV=true->¬(e+1<=e'/\e'<m):=by
          intro n
          induction n with
          | zero=>rintro ⟨e,oe,_,_,_,_,h⟩;omega
          | succ n jz=>
           rintro ⟨e,oe,h1,h2,h3,h4,h5⟩
           by_cases bk:∃e oe,l[e]?=some oe/\oe.op.op.aV=true/\j<=e/\e<m/\m<=e+n
           ·exact jz bk
           ·refine ⟨e,oe,h1,h2,h3,h4,?_⟩
            rintro e' cQ k1 k2 ⟨k3,k4⟩
            exact bk ⟨e',cQ,k1,k2,by omega,by omega,by omega⟩
         obtain ⟨e0,lG,g1,g2,g3,g4⟩:=hex
         obtain ⟨e,oe,h1,h2,h3,h4,h5⟩:=key m ⟨e0,lG,g1,g2,g3,g4,by omega⟩
         have bc:e≠j:=by
          rintro rfl
          rw [az] at h1
          cases h1
          rw [bR] at h2
          cases h2
         have kO:H m=H (e+1):=gB T (by omega) hm (λe' cQ k1 k2 k3=>h5 e' cQ k1 k2 k3)
         rw [kO]
         have lg:oe.pre.testBit j=false:=by
          cases hb:oe.pre.testBit j with
          | false=>rfl
          | true=>exact absurd ((bZ e oe h1 h2).2 h4) (behind e oe h1 hb)
         have:=T.tF j d lo e oe az aQ (by simpa using hw) h1 h2 (by omega) (by simpa using lg)
         simpa using this
        ·have kP:H m=H j:=gB T gi hm (λe oe h1 h2 h3=>hex ⟨e,oe,h1,h2,h3⟩)
         rw [kP]
         exact mG
      simp [aR,bK,ie]
     | e eo=>rw [aQ] at bR;cases bR
     | call g args=>rw [aQ] at bR;cases bR
     | ed x args=>rw [aQ] at bR;cases bR
    obtain ⟨v,h',st,hv,hh⟩:=mR (N:=N) q3 q1 eX
    subst hv
    subst hh
    refine st S' B ρ a w R _ _ ?_
    intro ae v' w' jv HH TT
    have R':=R.jK q2 TT jv HH
    rw [<-gj] at R'
    exact ih iK hlt2 m hm (mY bR) S' B ae _ w' R' Q λfk ja er gX jP=>hq fk ja er gX (TT.trans jP)
  ·have lr:cE d.op.guard (F j)=false:=by simpa using hw
   rw [if_neg (by rw [oA,oz,lr];simp)]
   obtain ⟨n1,n2⟩:=aH lr
   have R':=R.jK q2 (Tr.refl R.heap) (af.undef _) R.heap
   rw [n1] at gj
   rw [<-gj] at R'
   by_cases hE:d.op.op.aV=true
   ·obtain ⟨e1,e2⟩:=pa hE
    have e3:H (j+1)=H m:=by rw [n2,e1]
    exact ⟨λ_ _=>trivial,ih iK hlt2 (j+1) (by omega) e2 S' B ρ _ w (by rw [e3];exact R') Q λfk ja er gX jP=>hq fk ja er gX (by rw [e3] at jP;exact jP)⟩
   ·exact ⟨λ_ _=>trivial,ih iK hlt2 m hm (mY (by simpa using hE)) S' B ρ _ w R' Q hq⟩
theorem wO:∀{ios:List cH} {ps:List Nat},ios.length<=ps.length->(fB ios ps).length=ios.length/\∀(k:Nat) (d:aK),(fB ios ps)[k]?=some d->ios[k]?=some d.op/\d.pre=ps.getD k 0
 | [],ps,_=>⟨by simp [fB],λk d h=>by simp [fB] at h⟩
 | o::ios,[],h=>by simp at h
 | o::ios,p::ps,h=>by
  obtain ⟨h1,h2⟩:=wO (ios:=ios) (ps:=ps) (by simpa using h)
  refine ⟨by simp [fB,h1],?_⟩
  intro k d hk
  cases k with
  | zero=>simp [fB] at hk;subst hk;simp
  | succ k=>
   simp only [fB,List.getElem?_cons_succ] at hk
   obtain ⟨a,b⟩:=h2 k d hk
   exact ⟨by simpa using a,by simpa [getD] using b⟩
theorem qc:∀(es:List (List Nat)) (acc:List Nat),(cZ es acc).length=acc.length+es.length
 | [],acc=>by simp [cZ]
 | e::es,acc=>by simp only [cZ];rw [qc];simp;omega
theorem th {ops:Array Oper}:∀{os:List Oper} {l:List cH},eS P N ops os=some l->l.length=os.length/\∀(k:Nat) (o:Oper) (x:cH),os[k]?=some o->l[k]?=some x->kF P N ops o=some x
 | [],l,h=>by
  simp [eS] at h
  subst h
  exact ⟨rfl,λk o x hk=>by simp at hk⟩
 | o::os,l,h=>by
  obtain ⟨x,xs,h1,h2,rfl⟩:=nC h
  obtain ⟨e1,e2⟩:=th h2
  refine ⟨by simp [e1],?_⟩
  intro k o' x' hk hx
  cases k with
  | zero=>simp at hk hx;subst hk;subst hx;exact h1
  | succ k=>exact e2 k o' x' (by simpa using hk) (by simpa using hx)
theorem IC {out:Bool} {id:Nat} {ops:Array Oper} {l:List aK} {K:(Nat->Value)->ad->Prop} {f:Nat->Value} {h:ad} (hc:tf P N ops=some l) (hi:dV P l 0 [] [] K f h):
  ∃f' h',cp P N out (.region id ops true) f h .normal f' h'/\K f' h':=by
 unfold tf at hc
 split at hc
 ·rename_i ios ub
  split at hc
  ·rename_i kT
   simp at hc
   simp only [and_eq_true] at kT
   obtain ⟨⟨oc,hQ⟩,ke⟩:=kT
   rw [hc] at ke
   obtain ⟨g1,g2⟩:=th ub
   have ue:ios.length<=(cZ (ops.toList.map bE) []).length:=by rw [qc];simp [g1]
   obtain ⟨z1,z2⟩:=wO ue
   rw [hc] at z1 z2
   have hlen:l.length=ops.size:=by rw [z1,g1];simp
   obtain ⟨F,H,V,f1,f2,f3,T,_,_⟩:=uP hi
   simp only [zero_add] at f3
   refine ⟨F l.length,H l.length,?_,f3⟩
   ·intro S hS B ρ a w R
    refine wpIn_region_draw ?_
    intro t
    have uv:Region.schedule (P.follows .mixedOrders) ops t=Region.linearise .any ops t:=by
     unfold Region.schedule
     rw [oc]
     simp
    rw [uv]
    have ie:=As hQ t
    have kR:∀j e,e∈(ops.toList.map bE).getD j []->e<j:=by
     intro j e he
     by_cases hj:j<ops.size
     ·have hg:ops.toList[j]?=some ops[j]:=by simp [hj]
      have:(ops.toList.map bE).getD j []=bE ops[j]:=by simp [getD,hj]
      rw [this] at he
      have:=pP hQ j ops[j] hg e he
      omega
     ·have:(ops.toList.map bE).getD j []=[]:=by simp [getD,le_of_not_lt hj]
      rw [this] at he
      simp at he
    have lh:∀(l:List aK) (i:Nat) (f:Nat->Value),bj V [] l i f=f:=by
     intro l
     induction l with
     | nil=>intro i f;rfl
     | cons a l ih=>intro i f;simp [bj,ih]
    have R1:bD P N B ρ (bj V [] l 0 (F 0)) (H 0) a { w with drawn:=w.drawn+1 }:=by
     rw [lh,f1,f2]
     exact R.mono (Tr.drew R.heap _) (R.heap.drew _)
    refine FJ T hlen ?_ ?_ kR ke ie (λj e hj=>by simp at hj) (λi hi=>by simp at hi) 0 (by omega) (λe oe _ _=>by simp) S B ρ a _ R1 _ ?_
    ·intro k o d hk hd
     exact g2 k o d.op (by simpa using hk) (z2 k d hd).1
    ·intro k d hd
     exact (z2 k d hd).2
    ·intro ae a' w' R' T'
     refine ⟨rfl,ae,R',?_⟩
     have T0:=Tr.drew R.heap (w.drawn+1)
     rw [f2] at T'
     exact T0.trans T'
  ·cases hc
 ·cases hc
end
end
section
section
variable {P : Program} {w : World} {ρ : ai} {h : ad}
theorem ar.alloc (H:ar P ρ h w) (b:Obj):ar P ρ h (w.alloc b)/\Tr ρ h w ρ h (w.alloc b):=by
 have nb:=dn.alloc w b
 refine ⟨⟨?_,H.inj,H.aL⟩,?_⟩
 ·intro i r hi
  obtain ⟨o,ho,hr⟩:=H.obj i r hi
  refine ⟨o,ho,?_⟩
  by_cases hd:o=.dead
  ·subst hd;trivial
  ·exact hr.mono (.refl _) (nb.old (oM H hi ⟨o,ho,hd⟩))
 ·exact {
   ext:=.refl _
   len:=le_refl _
   cV:=λi r hi=>H.lt hi
   kinds:=λi _ hm=>hm
   fresh:=λi s h1 h2=>by rw [h1] at h2;cases h2
   cu:=by rw [nb.size];omega
   ck:=λk hk _=>nb.old hk
   os:=nb.os
   tape:=nb.tape
   output:=nb.output }
theorem lI {l k:Nat} {o:Obj} (hk:k≠l):(w.putObj l o).heap[k]?=w.heap[k]?:=World.putObj_heap_other hk
theorem ar.put (H:ar P ρ h w) {l:Nat} (aH:∀j s,ρ j=some s->s.aD=l->¬bF h j) (o:Obj):ar P ρ h (w.putObj l o):=by
 refine ⟨?_,H.inj,H.aL⟩
 intro i r hi
 obtain ⟨o',ho,hr⟩:=H.obj i r hi
 refine ⟨o',ho,?_⟩
 by_cases hd:o'=.dead
 ·subst hd;trivial
 ·refine hr.mono (.refl _) (lI ?_)
  intro e
  exact aH i r hi e ⟨o',ho,hd⟩
theorem ar.Af (H:ar P ρ h w) {l:Nat} {rec:Loop} (hl:w.heap[l]?=some (.loop rec)) {j:Nat} {s:RI} (hj:ρ j=some s) (hs:s.aD=l) (hv:bF h j):∃c ls vs,h[j]?=some (.loop c ls vs):=by
 obtain ⟨o,ho,bc⟩:=hv
 obtain ⟨o',bg,hr⟩:=H.obj j s hj
 rw [ho] at bg
 cases bg
 subst hs
 cases o with
 | ro e xs=>obtain ⟨_,c,_,fr,h2,_⟩:=hr;rw [hl] at h2;cases h2
 | arr e xs=>obtain ⟨_,_,c,h2,_⟩:=hr;rw [hl] at h2;cases h2
 | smap es=>obtain ⟨aj,clock,h1,_⟩:=hr;rw [hl] at h1;cases h1
 | dW kd es=>obtain ⟨aj,clock,h1,_⟩:=hr;rw [hl] at h1;cases h1
 | cq g c es=>obtain ⟨_,aj,h1,_⟩:=hr;rw [hl] at h1;cases h1
 | iter m s n l=>obtain ⟨_,rm,_,h1⟩:=hr;rw [hl] at h1;cases h1
 | loop c ls vs=>exact ⟨c,ls,vs,ho⟩
 | dead=>exact absurd rfl bc
theorem Tr.late {ae:ai} {h':ad} {w':World} (T:Tr ρ h w ae h' w') {l:Nat} (hl:w.heap.size<=l) (o:Obj) (i:Nat):Tr ρ h w ae (h'.set i .dead) (w'.putObj l o) where
 ext:=T.ext
 len:=by simpa using T.len
 cV:=T.cV
 kinds:=by
  intro j hj hm
  refine T.kinds j hj ?_
  by_cases e:j=i
  ·subst e
   have hlt:j<h'.length:=Nat.lt_of_lt_of_le hj T.len
   unfold aI at hm
   rw [getElem?_set_self hlt] at hm
   rcases hm with ⟨_,_,h1⟩ | ⟨_,h1⟩ | ⟨_,_,_,h1⟩ | ⟨_,_,h1⟩ | ⟨_,_,_,h1⟩ | ⟨_,_,_,_,h1⟩ <;> cases h1
  ·unfold aI at hm⊢
   rw [getElem?_set_ne (Ne.symm e)] at hm
   exact hm
 fresh:=T.fresh
 cu:=by rw [World.putObj_size];exact T.cu
 ck:=λk hk aH=>by rw [lI (by omega)];exact T.ck k hk aH
 os:=T.os
 tape:=T.tape
 output:=T.output
theorem ar.kill (H:ar P ρ h w) (i:Nat):ar P ρ (h.set i .dead) w:=by
 have hm:∀j,aI (h.set i .dead) j->aI h j:=by
  intro j hj
  by_cases e:j=i
  ·subst e
   unfold aI at hj
   by_cases hlt:j<h.length
   ·rw [getElem?_set_self hlt] at hj
    rcases hj with ⟨_,_,h1⟩ | ⟨_,h1⟩ | ⟨_,_,_,h1⟩ | ⟨_,_,h1⟩ | ⟨_,_,_,h1⟩ | ⟨_,_,_,_,h1⟩ <;> cases h1
   ·rw [List.getElem?_eq_none (by simpa using le_of_not_lt hlt)] at hj
    rcases hj with ⟨_,_,h1⟩ | ⟨_,h1⟩ | ⟨_,_,_,h1⟩ | ⟨_,_,h1⟩ | ⟨_,_,_,h1⟩ | ⟨_,_,_,_,h1⟩ <;> cases h1
  ·unfold aI at hj⊢
   rw [getElem?_set_ne (Ne.symm e)] at hj
   exact hj
 have hl:∀j,bF (h.set i .dead) j->bF h j:=by
  intro j hj
  by_cases e:j=i
  ·subst e
   obtain ⟨o,ho,bc⟩:=hj
   by_cases hlt:j<h.length
   ·rw [getElem?_set_self hlt] at ho
    cases ho
    exact absurd rfl bc
   ·rw [List.getElem?_eq_none (by simpa using le_of_not_lt hlt)] at ho
    cases ho
  ·unfold bF at hj⊢
   rw [getElem?_set_ne (Ne.symm e)] at hj
   exact hj
 refine ⟨?_,λa b r s ha hb h9 h1 h2=>H.inj a b r s ha hb h9 (hm a h1) (hl b h2),H.aL⟩
 intro j r hj
 by_cases e:j=i
 ·subst e
  exact ⟨.dead,by rw [getElem?_set_self (H.lt hj)],trivial⟩
 ·obtain ⟨o,ho,hr⟩:=H.obj j r hj
  exact ⟨o,by rw [getElem?_set_ne (Ne.symm e)];exact ho,hr⟩
theorem LA {g:FuncId} {first cap:Array Value} (eL:gY P g=true) (a:Act) (gx:Operand) (hy:a.eval gx=.func (.func g) first cap) (l:Nat) (w:World):
  ∃d,(resolve a.eval (rangeCall gx l) 0).run P w=.ok d w/\(invoke d.target d.args).run P w=.ok (.enter g (first++#[.func (.yield l) #[] #[]]++cap)) w:=by
 refine ⟨_,by simp [resolve,hy,Deferred.ofValue];rfl,?_⟩
 simp [invoke,s9 eL,Act.eval]
theorem KP {N:Nat} {g:Operand} {ps:Array Tmp} {dF body:Code} {ls:List Nat} {K:ad->Prop} {f:Nat->Value} (ak:di g=true)
  (hi:ko P (ev f g) ls (ls.map f) ⟨N,ps,dF,body⟩ h K):∃h',cp P N true (.rangeFunc g ps dF body) f h .normal f h'/\K h':=by
 unfold ko at hi
 split at hi
 ·rename_i F first cap hx
  obtain ⟨eL,v,h',kS,⟨c',At,dm,az⟩,hk⟩:=hi
  refine ⟨_,?_,hk⟩
  intro S hS B ρ a w R
  obtain rfl:=hS rfl
  refine wpIn_rangeFunc λfn _=>?_
  obtain ⟨H0,T0⟩:=R.heap.alloc (.deferred (some []))
  have ft:(w.alloc (.deferred (some []))).heap.size=w.heap.size+1:=World.size_alloc _ _
  have nb:=dn.alloc (w.alloc (.deferred (some []))) (.loop { state:=.ready,pending:=none,fn,tmps:=a.tmps,params:=ps,assign:=dF,body,defers:=w.heap.size })
  obtain ⟨H1,T1⟩:=H0.new (h₀:=h) (o:=.loop ⟨N,ps,dF,body⟩ ls (ls.map f)) (r:=⟨w.heap.size+1,0,0,P.cellsOf 0,0⟩) nb ft.symm rfl rfl (λ_=>.inl rfl)
   ⟨_,by rw [<-ft];exact nb.new,rfl,rfl,rfl,rfl,rfl,R.size,λt=>by
    rcases rh f ls t with e | e
    ·rw [e];exact (R.tmp t).mono (ai.jD R.heap.none)
    ·rw [e];exact .any _⟩
  have hr:=R.ev ak
  rw [hx] at hr
  generalize hy:a.eval g=y at hr
  cases hr with
  | func _ s1 s2 r1 r2=>
   rename_i tA tb
   obtain ⟨d,HZ,Hi⟩:=LA (w:=((w.alloc (.deferred (some []))).alloc (.loop { state:=.ready,pending:=none,fn,tmps:=a.tmps,params:=ps,assign:=dF,body,defers:=w.heap.size }))) eL a g hy (w.heap.size+1)
   refine ⟨_,_,_,d,_,F,_,_,run_enterLoop_outer fn a.tmps ps dF body,HZ,λ_ _=>trivial,Hi,λh=>(by cases h),?_⟩
   have hle:=ai.jD (r:=⟨w.heap.size+1,0,0,P.cellsOf 0,0⟩) R.heap.none
   have gf:aC (ρ.add h.length ⟨w.heap.size+1,0,0,P.cellsOf 0,0⟩) (first.toList++[.func (.yield h.length) #[] #[]]++cap.toList) (tA++#[Value.func (.yield (w.heap.size+1)) #[] #[]]++tb).toList:=by
    have q1:=(aC.kr s1 r1).mono hle
    have q3:=(aC.kr s2 r2).mono hle
    have q2:aC (ρ.add h.length ⟨w.heap.size+1,0,0,P.cellsOf 0,0⟩) [.func (.yield h.length) #[] #[]] [.func (.yield (w.heap.size+1)) #[] #[]]:=
     .cons (af.yield (i:=h.length) (r:=⟨w.heap.size+1,0,0,P.cellsOf 0,0⟩) (by simp [ai.add])) .nil
    simpa using (q1.append q2).append q3
   refine (yY (kS _ _ _ gf H1) none _).mono ?_
   rintro e w3 ⟨v',ae,rfl,hv,H3,T3⟩
   have uE:ae h.length=some ⟨w.heap.size+1,0,0,P.cellsOf 0,0⟩:=T3.ext _ _ (by simp [ai.add])
   obtain ⟨o,ho,ui⟩:=H3.obj _ _ uE
   rw [az] at ho
   cases ho
   obtain ⟨rec,g1,g2,g3,g4,g5,g6,g7,g8⟩:=ui
   have cf:=run_endLoop (P:=P) g1 (by rw [g2];decide)
   refine ⟨_,_,cf,?_⟩
   split
   rotate_left
   ·rename_i c hc;rw [g3] at hc;cases hc
   have TT:=(T0.trans (T1.trans T3))
   have Hk:=H3.kill h.length
   have HL:ar P ae (h'.set h.length .dead) (w3.putObj (w.heap.size+1) (.loop { rec with state:=.exhausted })):=by
    refine Hk.put ?_ _
    intro j s hj hs n8
    obtain ⟨c,_,_,hc⟩:=Hk.Af g1 hj hs n8
    have bc:j≠h.length:=by
     rintro rfl
     rw [getElem?_set_self (H3.lt uE)] at hc
     cases hc
    rw [getElem?_set_ne (Ne.symm bc)] at hc
    exact bc (H3.inj _ _ _ _ hj uE hs (.inr (.inr (.inl ⟨_,_,_,hc⟩))) ⟨_,az,by simp⟩)
   have TL:=TT.late (l:=w.heap.size+1) (by omega) (.loop { rec with state:=.exhausted }) h.length
   refine ⟨rfl,ae,⟨R.size,?_,λt=>(R.tmp t).mono TL.ext,HL⟩,TL⟩
   have hD:(w3.putObj (w.heap.size+1) (.loop { rec with state:=.exhausted })).heap[w.heap.size]?=some (.deferred (some [])):=by
    rw [lI (by omega)]
    have e1:(w.alloc (.deferred (some []))).heap[w.heap.size]?=some (.deferred (some [])):=World.alloc_heap_new _ _
    have e2:=nb.old (k:=w.heap.size) (by omega)
    rw [T3.ck _ (by rw [nb.size];omega) ?_,e2,e1]
    intro j s hj hs hm
    exact H1.vh (e2.trans e1) hj hs hm.live
   refine ⟨⟨w.heap.size,rfl,marks.base R.defers,hD,?_⟩,marks.tr R.heap TL R.defers⟩
   intro d' jq he
   obtain ⟨D,e1,e2⟩:=marks.lt R.defers d' jq
   rw [e1] at he
   have:=Ax he
   omega
 ·exact hi.elim
end
end
section
section
variable {P : Program} {N : Nat}
theorem Ee {a:eK} {g g':Operand->Value} (h:∀x∈a.cj,g x=g' x):dZ a g=dZ a g':=by
 cases a with
 | alloc e zs=>rfl
 | fc e n zs ps=>
  simp only [dZ]
  rw [rz (ps:=ps) h]
 | make e b zs l c=>
  simp only [eK.cj,mem_cons,List.not_mem_nil,or_false,forall_eq_or_imp,forall_eq] at h
  simp only [dZ,h.1,h.2]
 | fO g=>rfl
theorem Ef {a:eK} {g:Operand->Value} {V:Nat->Value} {o:aA} (h:dZ a g=some (V,o)) {ρ ae:ai} {i j:Nat} {v':Value} (e:ae j=ρ i) (hv:af ρ (V i) v'):af ae (V j) v':=by
 have ptr:V=(λi=>.pointer (some ⟨i,0,none⟩))->af ae (V j) v':=by
  rintro rfl
  cases hv with
  | ptr hr=>exact .ptr (by rw [e];exact hr)
 have Cw:∀t n,V=(λi=>sl t i 0 n)->af ae (V j) v':=by
  rintro t n rfl
  cases hv with
  | slice hr a b c d=>exact .slice (by rw [e];exact hr) a b c d
 have mp:V=(λi=>.map (some i))->af ae (V j) v':=by
  rintro rfl
  cases hv with
  | map hr=>exact .map (by rw [e];exact hr)
 cases a with
 | fO g=>simp [dZ] at h;exact mp h.1.symm
 | alloc t zs=>simp [dZ] at h;exact ptr h.1.symm
 | fc t n zs ps=>simp only [dZ,Option.map_eq_some_iff,Prod.mk.injEq] at h;obtain ⟨_,_,h1,_⟩:=h;exact Cw t n h1.symm
 | make t b zs l c=>
  simp only [dZ] at h
  split at h
  ·split at h
   ·simp at h;exact Cw t _ h.1.symm
   ·cases h
  ·cases h
theorem tp {i:Nat} {o:aA} {u:Value} (h:hG i o=some u):(∃e xs,o=.arr e xs/\(∀x∈xs,gP i x=true)/\u=.agg (.int .i64 e::xs).toArray)∨∃g,o=.cq g 0 []/\u=.tuple #[nJ g]:=by
 unfold hG at h
 split at h
 ·rename_i e xs
  split at h
  ·rename_i hx
   rw [all_eq_true] at hx
   injection h with h
   exact .inl ⟨e,xs,rfl,hx,h.symm⟩
  ·cases h
 ·rename_i g c es
  split at h
  ·rename_i hc
   obtain ⟨rfl,hc⟩:=hc
   rw [List.isEmpty_iff] at hc
   subst hc
   injection h with h
   exact .inr ⟨g,rfl,h.symm⟩
  ·cases h
 ·cases h
theorem GB {g g':ca} (h:nJ g=nJ g'):g=g':=by
 cases g <;> cases g' <;> simp [nJ] at h <;> first | rfl | (subst h;rfl) | (obtain ⟨rfl,h⟩:=h;rw [Int.ofNat.inj h]) | (have:=Int.ofNat.inj h.2;rw [h.1,this])
theorem Gi {i:Nat} {o o':aA} {u:Value} (h:hG i o=some u) (h':hG i o'=some u):o=o':=by
 rcases tp h with ⟨e,xs,rfl,_,h1⟩ | ⟨g,rfl,h1⟩ <;> rcases tp h' with ⟨e',xs',rfl,_,h2⟩ | ⟨g',rfl,h2⟩
 ·rw [h1] at h2
  simp at h2
  obtain ⟨h3,h4⟩:=h2
  have GK:e=e':=Int.ofNat.inj h3
  rw [GK,h4]
 ·rw [h1] at h2;cases h2
 ·rw [h1] at h2;cases h2
 ·rw [h1] at h2
  simp at h2
  rw [GB h2]
theorem gP.rel {ρ ae:ai} {i:Nat} {v v':Value} (h:gP i v=true) (hle:∀k,k<i->∀r,ρ k=some r->ae k=some r) (hv:af ρ v v'):af ae v v':=by
 unfold gP at h
 rw [or_eq_true] at h
 rcases h with h | h
 ·exact oL.rel h hv
 ·split at h
  ·have hk:=of_decide_eq_true h
   cases hv with
   | slice hr a b c d=>exact .slice (hle _ hk _ hr) a b c d
  ·cases h
theorem eI.gP {ρ ae:ai} {w:World} {r:RI} {o:aA} {i:Nat} (hx:(hG i o).isSome=true) (hle:∀k,k<i->∀r,ρ k=some r->ae k=some r) (h:eI ρ w r o):eI ae w r o:=by
 obtain ⟨u,hu⟩:=Option.isSome_iff_exists.1 hx
 rcases tp hu with ⟨e,xs,rfl,hx,_⟩ | ⟨g,rfl,_⟩
 ·obtain ⟨h1,h0,c,h2,h3,h4⟩:=h
  refine ⟨h1,h0,c,h2,h3,λj x hj=>?_⟩
  obtain ⟨c1,y,hy,hr⟩:=h4 j x hj
  exact ⟨c1,y,hy,Go.Sim.gP.rel (hx x (mem_of_getElem? hj)) hle hr⟩
 ·obtain ⟨h0,aj,h1,h2,h3⟩:=h
  exact ⟨h0,aj,h1,h2,λj b k v hj=>by simp at hj⟩
theorem ar.take {ρ ae:ai} {h:ad} {w w':World} {o:aA} {p:Nat} (R:ar P ρ h w) (hp:h[p]?=some o) (hx:(hG p o).isSome=true) (hn:ρ p=Option.none)
  (H':ar P ae (h++[o]) w') (T:Tr ρ h w ae (h++[o]) w'):ar P (λk=>if k=p then ae h.length else ρ k) h w':=by
 have hpl:=(bw hp).1
 have new:(h++[o])[h.length]?=some o:=by simp
 have old:∀k,k<h.length->(h++[o])[k]?=h[k]?:=λk hk=>getElem?_append_left hk
 have hle:ρ.le λk=>if k=p then ae h.length else ρ k:=by
  intro k r hr
  have:k≠p:=by rintro rfl;rw [hn] at hr;cases hr
  simp [this,hr]
 have mt:∀k,k<h.length->(aI h k↔aI (h++[o]) k):=λk hk=>by unfold aI;rw [old k hk]
 have lC:∀k,k<h.length->(bF h k↔bF (h++[o]) k):=λk hk=>by unfold bF;rw [old k hk]
 have back:∀k,k<p->∀r,ae k=some r->(λk=>if k=p then ae h.length else ρ k) k=some r:=by
  intro k hk r hr
  have bc:k≠p:=by omega
  simp only [if_neg bc]
  cases hq:ρ k with
  | none=>
   have:=(T.fresh k r hr hq).1
   omega
  | some r'=>
   have:=T.ext k r' hq
   rw [hr] at this
   exact this.symm
 have vd:aI h p↔aI (h++[o]) h.length:=by unfold aI;rw [new,hp]
 have u9:bF h p↔bF (h++[o]) h.length:=by unfold bF;rw [new,hp]
 refine ⟨?_,?_,?_⟩
 ·intro k r hr
  by_cases hk:k=p
  ·subst hk
   simp only [if_true] at hr
   obtain ⟨o',bg,hrel⟩:=H'.obj _ r hr
   rw [new] at bg
   cases bg
   exact ⟨_,hp,eI.gP hx back hrel⟩
  ·simp only [if_neg hk] at hr
   obtain ⟨o',bg,hrel⟩:=R.obj k r hr
   obtain ⟨o2,kc,om⟩:=H'.obj k r (T.ext k r hr)
   rw [old k (R.lt hr),bg] at kc
   cases kc
   exact ⟨o',bg,(hrel.down T.ext om).mono hle rfl⟩
 ·intro a b r s ha hb h9 hm hl
  by_cases ea:a=p <;> by_cases eb:b=p
  ·omega
  ·subst ea
   simp only [if_true] at ha
   simp only [if_neg eb] at hb
   have GU:=R.lt hb
   have:=H'.inj h.length b r s ha (T.ext b s hb) h9 (vd.1 hm) ((lC b GU).1 hl)
   omega
  ·subst eb
   simp only [if_true] at hb
   simp only [if_neg ea] at ha
   have hal:=R.lt ha
   have:=H'.inj a h.length r s (T.ext a r ha) hb h9 ((mt a hal).1 hm) (u9.1 hl)
   omega
  ·simp only [if_neg ea] at ha
   simp only [if_neg eb] at hb
   exact H'.inj a b r s (T.ext a r ha) (T.ext b s hb) h9 ((mt a (R.lt ha)).1 hm) ((lC b (R.lt hb)).1 hl)
 ·intro k r hr
  by_cases hk:k=p
  ·subst hk;simp only [if_true] at hr;exact H'.aL _ r hr
  ·simp only [if_neg hk] at hr;exact R.aL k r hr
theorem Tr.take {lZ ρ ae:ai} {hb h:ad} {wb w w':World} {o:aA} {p:Nat} (TB:Tr lZ hb wb ρ h w) (HJ:hb.length<=p) (hn:ρ p=Option.none) (T:Tr ρ h w ae (h++[o]) w'):
  Tr lZ hb wb (λk=>if k=p then ae h.length else ρ k) h w':=by
 have TT:=TB.trans T
 exact {
  ext:=by
   intro k r hr
   have:=TB.ext k r hr
   have hk:k≠p:=by rintro rfl;rw [hn] at this;cases this
   simp [hk,this]
  len:=TB.len
  cV:=TB.cV
  kinds:=TB.kinds
  fresh:=by
   intro k r hr Hl
   by_cases hk:k=p
   ·subst hk
    simp only [if_true] at hr
    have GW:lZ h.length=none:=by
     cases hq:lZ h.length with
     | none=>rfl
     | some q=>have:=TB.cV _ _ hq;have:=TB.len;omega
    exact ⟨HJ,(TT.fresh _ r hr GW).2⟩
   ·simp only [if_neg hk] at hr
    exact TB.fresh k r hr Hl
  cu:=TT.cu
  ck:=TT.ck
  os:=TT.os
  tape:=TT.tape
  output:=TT.output }
theorem mj {l:List aK} {F:Nat->Nat->Value} {H:Nat->ad} {V:Nat->Value} (T:Trace P l 0 F H V) {q:Nat} {d:aK} {a:eK} (hq:l[q]?=some d) (ho:d.op.op=.e (.fl a)) (hg:d.op.guard=none):
  ∃Vf o,dZ a (ev (F q))=some (Vf,o)/\V q=Vf (H q).length/\H (q+1)=H q++[o]/\(hG (H q).length o).isSome=true/\fu (H (q+1)) (V q)=hG (H q).length o/\
   ∀e' oe,l[e']?=some oe->oe.op.op.aV=true->q<e'->oe.pre.testBit q=false->fu (H (e'+1)) (V q)=hG (H q).length o:=by
 have hw:cE d.op.guard (F (0+q))=true:=by rw [hg];rfl
 have hy:=T.yes q d hq hw
 obtain ⟨u,u1,u2⟩:=T.zi q d a hq ho hw
 simp only [zero_add] at hy u1 u2
 rw [ho] at hy
 simp only [aR,fe,zW] at hy
 cases hal:dZ a (ev (F q)) with
 | none=>rw [hal] at hy;exact hy.elim
 | some p=>
  obtain ⟨Vf,o⟩:=p
  rw [hal] at hy
  simp only [map_some] at hy
  obtain ⟨h1,h2⟩:=hy
  have gI:=sN hal (H q).length
  rw [h1] at gI
  have nR:fu (H (q+1)) (V q)=hG (H q).length o:=by
   unfold fu
   rw [gI,<-h2]
   simp
  rw [nR] at u1
  exact ⟨Vf,o,rfl,h1.symm,h2.symm,by rw [u1];rfl,nR,λe' oe he hE hlt hp=>(u2 e' oe he hE hlt hp).trans u1.symm⟩
def sq (l:List aK) (S:List Nat) (m:Nat):Prop:=∀e oe,l[e]?=some oe->oe.op.op.aV=true->cD oe=false->(e∈S↔e<m)
theorem lA {o:aK}:cD o=true↔∃a,o.op.op=.e (.fl a):=by
 unfold cD
 constructor
 ·intro h
  split at h
  ·rename_i a ha;exact ⟨a,ha⟩
  ·cases h
 ·rintro ⟨a,ha⟩;rw [ha]
structure Laid (P:Program) (N:Nat) (ops:Array Oper) (l:List aK) (perm:Nat->Nat) (mF:Nat):Prop where
 len:l.length=ops.size
 lt:∀q,q<ops.size->perm q<ops.size
 inj:∀q k,q<ops.size->k<ops.size->perm q=perm k->q=k
 LR:∀j,j<ops.size->∃q,q<ops.size/\perm q=j
 comp:∀q o d,ops[perm q]?=some o->l[q]?=some d->∃x,kF P N ops o=some x/\x.dst=d.op.dst/\x.guard=d.op.guard/\tmpsOf x.op.cj=tmpsOf d.op.op.cj/\((cD d=false/\x.op=d.op.op)∨∃a,x.op=.e a.rV/\d.op.op=.e (.fl a)/\d.op.guard=none)
 pre:∀q d,l[q]?=some d->∀k,k<ops.size->d.pre.testBit k=((cZ (ops.toList.map bE) []).getD (perm q) 0).testBit (perm k)
 back:∀j e,e∈(ops.toList.map bE).getD j []->e<j
 oP:∀i j oi oj,l[i]?=some oi->l[j]?=some oj->mV oj j oi i=true
 head:mF<=l.length
 low:∀q d,l[q]?=some d->q<mF->d.op.op.aV=true->cD d=true
 high:∀q d,l[q]?=some d->mF<=q->cD d=false
theorem BT {oi oj:aK} {i j t:Nat} (h:mV oj j oi i=true) (bc:i≠j) (hd:oi.op.dst=some t) (ht:iU oj t=true):(if i<j then oj.pre.testBit i else oi.pre.testBit j)=true:=by
 unfold mV at h
 rw [hd] at h
 simp only [and_eq_true,or_eq_true,beq_iff_eq,ht,Bool.not_true,Bool.false_eq_true,false_or] at h
 rcases h.1 with h | h
 ·exact absurd h bc
 ·exact h
theorem vO {oi oj:aK} {i j:Nat} (h:mV oj j oi i=true) (hlt:i<j) (hi:oi.op.op.aV=true) (hj:oj.op.op.aV=true) (fi:cD oi=false) (fj:cD oj=false):oj.pre.testBit i=true:=by
 unfold mV at h
 simp only [and_eq_true,hlt,decide_true,hi,hj,fi,fj,Bool.and_self,Bool.not_true,Bool.not_false,Bool.false_or] at h
 exact h.2
theorem j7 {ops:Array Oper} {l:List aK} {perm:Nat->Nat} {mF:Nat} (L:Laid P N ops l perm mF) (eU:∀(q:Nat) (d:aK),l[q]?=some d->cD d=true->d.op.guard=none) {F:Nat->Nat->Value} {H:Nat->ad} {V:Nat->Value} (T:Trace P l 0 F H V) {k:Nat}:∀(d:Nat),k+d<=mF->∃os,H (k+d)=H k++os
 | 0,_=>⟨[],by simp⟩
 | d+1,hd=>by
  obtain ⟨os,eM⟩:=j7 L eU T (k:=k) d (by omega)
  have hlt:k+d<l.length:=by have:=L.head;omega
  have az:l[k+d]?=some l[k+d]:=getElem?_eq_getElem hlt
  rw [show k+(d+1)=k+d+1 by omega]
  cases hE:l[k+d].op.op.aV with
  | true=>
   have hf:=L.low (k+d) _ az (by omega) hE
   obtain ⟨a,ha⟩:=lA.1 hf
   obtain ⟨_,oo,_,_,h3,_⟩:=mj T az ha (eU _ _ az hf)
   exact ⟨os++[oo],by rw [h3,eM];simp⟩
  | false=>
   have:=sa T (i:=k+d) 1 (by omega) (λe oe h1 h2 h3=>by
    have:e=k+d:=by omega
    subst this
    rw [az] at h1
    cases h1
    rw [hE] at h2
    cases h2)
   exact ⟨os,by rw [this,eM]⟩
theorem FK {ops:Array Oper} {l:List aK} {perm:Nat->Nat} {mF:Nat} (L:Laid P N ops l perm mF) (eU:∀(q:Nat) (d:aK),l[q]?=some d->cD d=true->d.op.guard=none) {F:Nat->Nat->Value} {H:Nat->ad} {V:Nat->Value} (T:Trace P l 0 F H V)
  {lZ:ai} {wb:World} {S r:List Nat} (hv:kC ops S r):
  nh (ops.toList.map bE) S->(∀i∈S,i<ops.size)->∀Sp,(∀q,q∈Sp↔q<ops.size/\perm q∈S)->∀m,mF<=m->m<=l.length->sq l Sp m->∀S' B ρ a w,bD P N B ρ (bj V Sp l 0 (F 0)) (H m) a w->(H mF).length<=(H m).length->
   (∀(q:Nat) (d:aK),l[q]?=some d->cD d=true->q∉Sp->ρ (H q).length=none/\fu (H m) (V q)=fu (H (q+1)) (V q))->Tr lZ (H 0) wb ρ (H m) w->∀Q:Exit->Act->World->Prop,
   (∀ae a' w',bD P N B ae (F l.length) (H l.length) a' w'->Tr lZ (H 0) wb ae (H l.length) w'->Q .normal a' w')->wpOpsIn (FR S') 0 P ops Q r a w:=by
 induction hv with
 | nil dT=>
  rename_i S
  intro bL hlt Sp mr m n9 hm bZ S' B ρ a w R _ _ TB Q hq
  have dB:∀q,q<l.length->q∈Sp:=λq hq=>(mr q).2 ⟨by rw [<-L.len];exact hq,dT _ (L.lt q (by rw [<-L.len];exact hq))⟩
  have hF:bj V Sp l 0 (F 0)=F l.length:=by
   have h1:=nI T l 0 (List.range l.length) l.length (λk=>by simp) (λk=>by simp) (by omega) (by omega)
   rw [<-h1]
   funext t
   refine jX (λk d hk _=>?_) rfl
   have qJ:=(bw hk).1
   simp only [zero_add,mem_range]
   exact ⟨λ_=>qJ,λ_=>dB k qJ⟩
  have hH:H l.length=H m:=by
   refine gB T hm (le_refl _) ?_
   rintro e oe he hE ⟨h1,h2⟩
   have:=(bZ e oe he hE (L.high e oe he (by omega))).1 (dB e h2)
   omega
  rw [hF] at R
  simp only [wpOpsIn]
  exact hq ρ a w (by rw [hH];exact R) (by rw [hH];exact TB)
 | cons ju hY kW Io ih=>
  rename_i S j0 o r
  intro bL hlt Sp mr m n9 hm bZ S' B ρ a w R hlen gH TB Q hq
  have zE:j0<ops.size:=(Array.getElem?_eq_some_iff.1 ju).1
  obtain ⟨j,mC,j9⟩:=L.LR j0 zE
  have dL:j<l.length:=by rw [L.len];exact mC
  have az:l[j]?=some (l[j]'dL):=getElem?_eq_getElem _
  generalize G5:l[j]'dL=d at az
  obtain ⟨x,hc,x1,x2,x3,x4⟩:=L.comp j o d (by rw [j9];exact ju) az
  obtain ⟨q1,q2,q3,q4,q5⟩:=qi hc
  rw [x2] at q4
  rw [x1] at q5
  have uh:j∉Sp:=λh=>hY (by rw [<-j9];exact ((mr j).1 h).2)
  have dU:(ops.toList.map bE).getD j0 []=bE o:=by
   simp [getD,ju]
  have iK:nh (ops.toList.map bE) (j0::S):=by
   intro k e hk he
   rcases mem_cons.1 hk with rfl | hk
   ·rw [dU] at he
    exact mem_cons_of_mem _ (kW e he)
   ·exact mem_cons_of_mem _ (bL k e hk he)
  have nN:∀q,q∈j::Sp↔q<ops.size/\perm q∈j0::S:=by
   intro q
   rw [mem_cons,mem_cons,mr]
   constructor
   ·rintro (rfl | ⟨h1,h2⟩)
    ·exact ⟨mC,.inl j9⟩
    ·exact ⟨h1,.inr h2⟩
   ·rintro ⟨h1,h2 | h2⟩
    ·exact .inl (L.inj q j h1 mC (h2.trans j9.symm))
    ·exact .inr ⟨h1,h2⟩
  have before:∀i,i<ops.size->d.pre.testBit i=true->i∈Sp:=by
   intro i hi hb
   rw [L.pre j d az i hi,j9] at hb
   exact (mr i).2 ⟨hi,rC bL L.back j0 (perm i) (by rw [dU];exact kW) hb⟩
  have behind:∀k dk,l[k]?=some dk->dk.pre.testBit j=true->k∉Sp:=by
   intro k dk hk hb nZ
   have MG:k<ops.size:=by rw [<-L.len];exact (bw hk).1
   rw [L.pre k dk hk j mC,j9] at hb
   have Hm:=((mr k).1 nZ).2
   exact hY (rC bL L.back (perm k) j0 (λe he=>bL (perm k) e Hm he) hb)
  have fv:∀{k dk},l[k]?=some dk->k<ops.size:=λhk=>by rw [<-L.len];exact (bw hk).1
  have slot:∀t,iU d t=true->bj V Sp l 0 (F 0) t=F j t:=by
   intro t ht
   have h1:=nI T l 0 (List.range j) j (λk=>by simp) (λk=>by simp) (by omega) (by omega)
   rw [<-h1]
   refine jX (λk dk hk kV=>?_) rfl
   simp only [zero_add,mem_range]
   by_cases jt:k=j
   ·subst jt
    exact ⟨λh=>absurd h uh,λh=>absurd h (Nat.lt_irrefl _)⟩
   ·have hp:=BT (L.oP k j dk d hk az) jt kV ht
    by_cases cr:k<j
    ·rw [if_pos cr] at hp
     exact ⟨λ_=>cr,λ_=>before k (fv hk) hp⟩
    ·rw [if_neg cr] at hp
     exact ⟨λh=>absurd h (behind k dk hk hp),λh=>absurd h cr⟩
  have lk:∀t∈d.op.reads,bj V Sp l 0 (F 0) t=F j t:=λt ht=>slot t (by simp [iU,ht])
  have mD:∀t∈tmpsOf d.op.op.cj,bj V Sp l 0 (F 0) t=F j t:=λt ht=>lk t (by simp [cH.reads,ht])
  have oz:cE d.op.guard (bj V Sp l 0 (F 0))=cE d.op.guard (F j):=by
   cases hg:d.op.guard with
   | none=>rfl
   | some sb=>
    obtain ⟨s,b⟩:=sb
    simp only [cE]
    rw [lk s (by simp [cH.reads,hg])]
  have tY:hK d.op.guard (bj V Sp l 0 (F 0)):=by
   have:=T.tL j d az
   simp only [zero_add] at this
   cases hg:d.op.guard with
   | none=>trivial
   | some sb=>
    obtain ⟨s,b⟩:=sb
    rw [hg] at this
    simp only [hK] at this⊢
    rw [lk s (by simp [cH.reads,hg])]
    exact this
  have oA:=rZ q4 R tY
  have gj:bj V (j::Sp) l 0 (F 0)=aX (bj V Sp l 0 (F 0)) o.dst (V j):=by
   rw [<-q5]
   funext t
   by_cases hT:d.op.dst=some t
   ·have h1:=tE (V:=V) (S:=j::Sp) (l:=l) (i:=0) (f:=F 0) (k:=j) (d:=d) az hT (by simp) (by
     intro k' d' bH jq cr
     have hp:=BT (L.oP k' j d' d bH az) (by omega) jq (by simp [iU,hT])
     rw [if_neg (by omega)] at hp
     have:=behind k' d' bH hp
     simp only [zero_add,mem_cons,not_or]
     exact ⟨by omega,this⟩)
    rw [h1]
    simp [hT,aX,iy]
   ·have h1:bj V (j::Sp) l 0 (F 0) t=bj V Sp l 0 (F 0) t:=by
     refine jX (λk dk hk kV=>?_) rfl
     have jt:k≠j:=by
      rintro rfl
      rw [az] at hk
      cases hk
      exact hT kV
     simp [jt]
    rw [h1]
    cases nQ:d.op.dst with
    | none=>rfl
    | some y=>
     have:t≠y:=by rintro rfl;exact hT nQ
     simp [aX,iy,this]
  have hlt2:∀i∈j0::S,i<ops.size:=by
   intro i hi
   rcases mem_cons.1 hi with rfl | hi
   ·exact zE
   ·exact hlt i hi
  -- Mw still to Mo stay jQ MY Mj
  have oX:∀q dq,l[q]?=some dq->cD dq=true->q<mF:=by
   intro q dq hq hf
   apply byContradiction
   intro h
   rw [L.high q dq hq (by omega)] at hf
   cases hf
  have KO:∀q dq,l[q]?=some dq->cD dq=true->(H q).length<(H mF).length:=by
   intro q dq hq hf
   have HP:=oX q dq hq hf
   obtain ⟨a,ha⟩:=lA.1 hf
   obtain ⟨_,oo,_,_,h3,_⟩:=mj T hq ha (eU _ _ hq hf)
   obtain ⟨os,eM⟩:=j7 L eU T (k:=q+1) (mF-(q+1)) (by omega)
   rw [show q+1+(mF-(q+1))=mF by omega,h3] at eM
   rw [eM]
   simp
  have Aj:∀{ae:ai} {h':ad} {w':World},Tr ρ (H m) w ae h' w'->∀q dq,l[q]?=some dq->cD dq=true->ρ (H q).length=none->ae (H q).length=none:=by
   intro ae h' w' TT q dq hq hf hn
   cases hr:ae (H q).length with
   | none=>rfl
   | some s=>
    have:=(TT.fresh _ s hr hn).1
    have:=KO q dq hq hf
    omega
  -- the o9,where the Jw writes memory
  have pa:d.op.op.aV=true->cD d=false->mF<=j/\H m=H j/\sq l (j::Sp) (j+1):=by
   intro hE gL
   have nX:mF<=j:=by
    apply byContradiction
    intro h
    rw [L.low j d az (by omega) hE] at gL
    cases gL
   have gi:m<=j:=by
    apply byContradiction
    intro h
    exact uh ((bZ j d az hE gL).2 (by omega))
   refine ⟨nX,?_,?_⟩
   ·refine (gB T gi (by omega) ?_).symm
    rintro e oe he eB ⟨h1,h2⟩
    have jr:=L.high e oe he (by omega)
    have hb:=vO (L.oP e j oe d he az) h2 eB hE jr gL
    have:=(bZ e oe he eB jr).1 (before e (fv he) hb)
    omega
   ·intro e oe he eB jr
    rcases Nat.lt_trichotomy e j with cr | rfl | kY
    ·have hb:=vO (L.oP e j oe d he az) cr eB hE jr gL
     exact ⟨λ_=>by omega,λ_=>mem_cons_of_mem _ (before e (fv he) hb)⟩
    ·exact ⟨λ_=>by omega,λ_=>by simp⟩
    ·have hb:=vO (L.oP j e d oe az he) kY hE eB gL jr
     have:=behind e oe he hb
     constructor
     ·intro h
      rcases mem_cons.1 h with h | h
      ·omega
      ·exact absurd h this
     ·intro h;omega
  have mY:(d.op.op.aV=false∨cD d=true)->sq l (j::Sp) m:=by
   intro hE e oe he eB jr
   have bc:e≠j:=by
    rintro rfl
    rw [az] at he
    cases he
    rcases hE with hE | hE
    ·rw [hE] at eB;cases eB
    ·rw [hE] at jr;cases jr
   rw [<-bZ e oe he eB jr]
   simp [bc]
  have dC:=T.yes j d az
  have aH:=T.no j d az
  simp only [zero_add] at dC aH
  simp only [wpOpsIn,ju]
  by_cases hw:cE d.op.guard (F j)=true
  ·rw [if_pos (by rw [oA,oz,hw])]
   have hs:=dC hw
   rcases x4 with ⟨gL,wN⟩ | ⟨aa,wN,tk,dg⟩
   ·rw [wN] at q3
    by_cases hE:d.op.op.aV=true
    ·obtain ⟨e0,e1,e2⟩:=pa hE gL
     rw [<-rR mD,<-e1] at hs
     obtain ⟨v,h',st,hv,hh⟩:=mR (N:=N) q3 q1 hs
     subst hv
     subst hh
     refine st S' B ρ a w R _ _ ?_
     intro ae v' w' jv HH TT
     have R':=R.jK q2 TT jv HH
     rw [<-gj] at R'
     refine ih iK hlt2 (j::Sp) nN (j+1) (by omega) (by omega) e2 S' B ae _ w' R' (Nat.le_trans hlen TT.len) ?_ (TB.trans TT) Q hq
     intro q dq dt hf hZ
     have zL:q∉Sp:=λh=>hZ (mem_cons_of_mem _ h)
     obtain ⟨i1,i2⟩:=gH q dq dt hf zL
     refine ⟨Aj TT q dq dt hf i1,?_⟩
     obtain ⟨a',nO⟩:=lA.1 hf
     obtain ⟨_,oo,_,_,_,_,h5,h6⟩:=mj T dt nO (eU _ _ dt hf)
     rw [h5]
     refine h6 j d az hE (by have:=oX q dq dt hf;omega) ?_
     cases hb:d.pre.testBit q with
     | false=>rfl
     | true=>exact absurd (before q (fv dt) hb) zL
    ·have bR:d.op.op.aV=false:=by simpa using hE
     -- LW is looked at has one value at this o9 and in the MN order
     have eX:aR P d.op.op (bj V Sp l 0 (F 0)) (H m) λv h'=>v=V j/\h'=H m:=by
      rw [rR mD]
      cases aQ:d.op.op with
      | p po=>
       rw [aQ] at hs
       simp only [aR,bK] at hs⊢
       split at hs
       ·exact ⟨hs.1,trivial⟩
       ·exact hs.elim
      | l lo=>
       have mG:bM lo (ev (F j)) (H j)=some (V j):=by
        rw [aQ] at hs
        simp only [aR,bK] at hs
        split at hs
        ·rename_i v hv
         rw [hv,hs.1]
        ·exact hs.elim
       -- from a place at or behind the head,to a o9 before it
       have down:mF<=j->m<=j->bM lo (ev (F j)) (H m)=some (V j):=by
        intro nX gi
        by_cases hex:∃e oe,l[e]?=some oe/\oe.op.op.aV=true/\m<=e/\e<j
        ·have key:∀n,(∃e oe,l[e]?=some oe/\oe.op.op.aV=true/\m<=e/\e<j/\e<n)->∃e oe,l[e]?=some oe/\oe.op.op.aV=true/\m<=e/\e<j/\∀e' cQ,l[e']?=some cQ->cQ.op.op.aV=true->¬(m<=e'/\e'<e):=by
          intro n
          induction n with
          | zero=>rintro ⟨e,oe,_,_,_,_,h⟩;omega
          | succ n jz=>
           rintro ⟨e,oe,h1,h2,h3,h4,h5⟩
           by_cases bk:∃e oe,l[e]?=some oe/\oe.op.op.aV=true/\m<=e/\e<j/\e<n
           ·exact jz bk
           ·refine ⟨e,oe,h1,h2,h3,h4,?_⟩
            rintro e' cQ k1 k2 ⟨k3,k4⟩
            exact bk ⟨e',cQ,k1,k2,k3,by omega,by omega⟩
         obtain ⟨e0,lG,g1,g2,g3,g4⟩:=hex
         obtain ⟨e,oe,h1,h2,h3,h4,h5⟩:=key j ⟨e0,lG,g1,g2,g3,g4,g4⟩
         have kO:H e=H m:=gB T h3 (by omega) (λe' cQ k1 k2 k3=>h5 e' cQ k1 k2 k3)
         rw [<-kO]
         have lg:d.pre.testBit e=false:=by
          cases hb:d.pre.testBit e with
          | false=>rfl
          | true=>
           have:=(bZ e oe h1 h2 (L.high e oe h1 (by omega))).1 (before e (fv h1) hb)
           omega
         have:=T.past e oe j d lo h1 h2 az aQ (by simpa using hw) h4 (by simpa using lg)
         simpa using this
        ·have kP:H j=H m:=gB T gi (by omega) (λe oe h1 h2 h3=>hex ⟨e,oe,h1,h2,h3⟩)
         rw [<-kP]
         exact mG
       -- to a o9 behind it,from where the value is known
       have up:∀b,j<=b->mF<=b->b<=m->bM lo (ev (F j)) (H b)=some (V j)->bM lo (ev (F j)) (H m)=some (V j):=by
        intro b zD MA hbm GY
        by_cases hex:∃e oe,l[e]?=some oe/\oe.op.op.aV=true/\b<=e/\e<m
        ·have key:∀n,(∃e oe,l[e]?=some oe/\oe.op.op.aV=true/\b<=e/\e<m/\m<=e+n)->∃e oe,l[e]?=some oe/\oe.op.op.aV=true/\b<=e/\e<m/\∀e' cQ,l[e']?=some cQ->cQ.op.op.aV=true->¬(e+1<=e'/\e'<m):=by
          intro n
          induction n with
          | zero=>rintro ⟨e,oe,_,_,_,_,h⟩;omega
          | succ n jz=>
           rintro ⟨e,oe,h1,h2,h3,h4,h5⟩
           by_cases bk:∃e oe,l[e]?=some oe/\oe.op.op.aV=true/\b<=e/\e<m/\m<=e+n
           ·exact jz bk
           ·refine ⟨e,oe,h1,h2,h3,h4,?_⟩
            rintro e' cQ k1 k2 ⟨k3,k4⟩
            exact bk ⟨e',cQ,k1,k2,by omega,by omega,by omega⟩
         obtain ⟨e0,lG,g1,g2,g3,g4⟩:=hex
         obtain ⟨e,oe,h1,h2,h3,h4,h5⟩:=key m ⟨e0,lG,g1,g2,g3,g4,by omega⟩
         have bc:e≠j:=by
          rintro rfl
          rw [az] at h1
          cases h1
          rw [bR] at h2
          cases h2
         have kO:H m=H (e+1):=gB T (by omega) hm (λe' cQ k1 k2 k3=>h5 e' cQ k1 k2 k3)
         rw [kO]
         have lg:oe.pre.testBit j=false:=by
          cases hb:oe.pre.testBit j with
          | false=>rfl
          | true=>exact absurd ((bZ e oe h1 h2 (L.high e oe h1 (by omega))).2 h4) (behind e oe h1 hb)
         have:=T.tF j d lo e oe az aQ (by simpa using hw) h1 h2 (by omega) (by simpa using lg)
         simpa using this
        ·have kP:H m=H b:=gB T hbm hm (λe oe h1 h2 h3=>hex ⟨e,oe,h1,h2,h3⟩)
         rw [kP]
         exact GY
       have ie:bM lo (ev (F j)) (H m)=some (V j):=by
        by_cases nX:mF<=j
        ·rcases Nat.le_total m j with gi | gi
         ·exact down nX gi
         ·exact up j (le_refl _) nX gi mG
        ·obtain ⟨os,eM⟩:=j7 L eU T (k:=j) (mF-j) (by omega)
         rw [show j+(mF-j)=mF by omega] at eM
         refine up mF (by omega) (le_refl _) n9 ?_
         rw [eM]
         exact IG os mG
       simp [aR,bK,ie]
      | e eo=>rw [aQ] at bR;cases bR
      | call g args=>rw [aQ] at bR;cases bR
      | ed x args=>rw [aQ] at bR;cases bR
     obtain ⟨v,h',st,hv,hh⟩:=mR (N:=N) q3 q1 eX
     subst hv
     subst hh
     refine st S' B ρ a w R _ _ ?_
     intro ae v' w' jv HH TT
     have R':=R.jK q2 TT jv HH
     rw [<-gj] at R'
     refine ih iK hlt2 (j::Sp) nN m n9 hm (mY (.inl bR)) S' B ae _ w' R' hlen ?_ (TB.trans TT) Q hq
     intro q dq dt hf hZ
     obtain ⟨i1,i2⟩:=gH q dq dt hf (λh=>hZ (mem_cons_of_mem _ h))
     exact ⟨Aj TT q dq dt hf i1,i2⟩
   ·-- a new MQ
    have hf:cD d=true:=lA.2 ⟨aa,tk⟩
    obtain ⟨Vf,oo,h1,h2,h3,h4,h5,h6⟩:=mj T az tk dg
    obtain ⟨i1,i2⟩:=gH j d az hf uh
    have hal:dZ aa (ev (bj V Sp l 0 (F 0)))=some (Vf,oo):=by
     rw [<-h1]
     refine Ee (tu λt ht=>mD t ?_)
     rw [tk]
     exact ht
    have gI:=sN h1 (H j).length
    rw [<-h2] at gI
    have HB:(H m)[(H j).length]?=some oo:=by
     rw [h5] at i2
     unfold fu at i2
     rw [gI] at i2
     simp only [bind_some] at i2
     cases ho:(H m)[(H j).length]? with
     | none=>
      rw [ho] at i2
      obtain ⟨u,hu⟩:=Option.isSome_iff_exists.1 h4
      rw [hu] at i2
      cases i2
     | some o'=>
      rw [ho] at i2
      obtain ⟨u,nR⟩:=Option.isSome_iff_exists.1 h4
      simp only [bind_some] at i2
      rw [Gi (i2.trans nR) nR]
    have Ih:aR P x.op (bj V Sp l 0 (F 0)) (H m) λv h'=>v=Vf (H m).length/\h'=H m++[oo]:=by
     rw [wN]
     simp only [aR,fe,IE,zW,hal,map_some]
     exact ⟨trivial,trivial⟩
    obtain ⟨v,h',st,hv,hh⟩:=mR (N:=N) q3 q1 Ih
    subst hv
    subst hh
    refine st S' B ρ a w R _ _ ?_
    intro ae v' w' jv HH TT
    have HR:=R.heap.take HB h4 i1 HH TT
    have hle:ρ.le λk=>if k=(H j).length then ae (H m).length else ρ k:=by
     intro k s hk
     have:k≠(H j).length:=by rintro rfl;rw [i1] at hk;cases hk
     simp [this,hk]
    have R1:bD P N B (λk=>if k=(H j).length then ae (H m).length else ρ k) (bj V Sp l 0 (F 0)) (H m) a w':=⟨R.size,marks.tr R.heap TT R.defers,λt=>(R.tmp t).mono hle,HR⟩
    have Iq:af (λk=>if k=(H j).length then ae (H m).length else ρ k) (V j) v':=by
     rw [h2]
     exact Ef h1 (by simp) jv
    have R':=R1.jK q2 (Tr.refl HR) Iq HR
    rw [<-gj] at R'
    have zD:(H 0).length<=(H j).length:=by
     obtain ⟨os,eM⟩:=j7 L eU T (k:=0) j (by have:=oX j d az hf;omega)
     rw [zero_add] at eM
     rw [eM];simp
    refine ih iK hlt2 (j::Sp) nN m n9 hm (mY (.inr hf)) S' B _ _ w' R' hlen ?_ (TB.take zD i1 TT) Q hq
    intro q dq dt tX hZ
    have HN:q≠j:=λh=>hZ (by simp [h])
    obtain ⟨k1,k2⟩:=gH q dq dt tX (λh=>hZ (mem_cons_of_mem _ h))
    refine ⟨?_,k2⟩
    have bc:(H q).length≠(H j).length:=by
     have grow:∀{a b:Nat} {da:aK},l[a]?=some da->cD da=true->a<b->b<mF->(H a).length<(H b).length:=by
      intro a b da ha zx kQ hb
      obtain ⟨a',nO⟩:=lA.1 zx
      obtain ⟨_,MV,_,_,g3,_⟩:=mj T ha nO (eU _ _ ha zx)
      obtain ⟨os,eM⟩:=j7 L eU T (k:=a+1) (b-(a+1)) (by omega)
      rw [show a+1+(b-(a+1))=b by omega,g3] at eM
      rw [eM]
      simp
     rcases Nat.lt_or_gt_of_ne HN with h | h
     ·have:=grow dt tX h (oX j d az hf);omega
     ·have:=grow az hf h (oX q dq dt tX);omega
    simp [bc,k1]
  ·have lr:cE d.op.guard (F j)=false:=by simpa using hw
   rw [if_neg (by rw [oA,oz,lr];simp)]
   obtain ⟨n1,n2⟩:=aH lr
   have R':=R.jK q2 (Tr.refl R.heap) (af.undef _) R.heap
   rw [n1] at gj
   rw [<-gj] at R'
   have gL:cD d=false:=by
    cases hf:cD d with
    | false=>rfl
    | true=>rw [eU j d az hf] at lr;cases lr
   by_cases hE:d.op.op.aV=true
   ·obtain ⟨e0,e1,e2⟩:=pa hE gL
    have e3:H (j+1)=H m:=by rw [n2,e1]
    refine ⟨λ_ _=>trivial,ih iK hlt2 (j::Sp) nN (j+1) (by omega) (by omega) e2 S' B ρ _ w (by rw [e3];exact R') (by rw [e3];exact hlen) ?_ (by rw [e3];exact TB) Q hq⟩
    intro q dq dt hf hZ
    rw [e3]
    exact gH q dq dt hf (λh=>hZ (mem_cons_of_mem _ h))
   ·exact ⟨λ_ _=>trivial,ih iK hlt2 (j::Sp) nN m n9 hm (mY (.inl (by simpa using hE))) S' B ρ _ w R' hlen (λq dq dt hf hZ=>gH q dq dt hf (λh=>hZ (mem_cons_of_mem _ h))) TB Q hq⟩
end
end
section
section
variable {P : Program} {N : Nat}
theorem FD {op:Op} {a:eK} (h:cO P op=some (.fl a)):False:=by
 unfold cO at h
 split at h
 all_goals repeat' (split at h)
 all_goals first | (cases h;done) | (simp at h;done) | (simp only [Option.map_eq_some_iff] at h;obtain ⟨_,_,h⟩:=h;cases h;done)
theorem FG {op:Op} {a:eK} (h:jT P op=some (.e (.fl a))):False:=by
 rcases y4 h with ⟨po,e,_⟩ | ⟨lo,e,_⟩ | ⟨eo,e,he⟩ | ⟨g,args,at_,_,_,e⟩ | ⟨x,args,at_,_,e⟩
 ·cases e
 ·cases e
 ·cases e;exact FD he
 ·cases e
 ·cases e
theorem y6:∀{l:List Nat},qn l=true->l.Nodup
 | [],_=>.nil
 | x::xs,h=>by
  simp only [qn,and_eq_true] at h
  rw [nodup_cons]
  exact ⟨by simpa using h.1,y6 h.2⟩
theorem Al {l:List aK} {fl:List Nat} {p0:List Nat}:∀{perm:List Nat},(∀i∈perm,i<l.length)->∀q:Nat,
  (perm.filterMap λi=>(l[i]?).map λo=>(⟨if fl.contains i then nH o.op else o.op,rb o.pre p0 0⟩:aK))[q]?=(perm[q]?).bind λi=>(l[i]?).map λo=>⟨if fl.contains i then nH o.op else o.op,rb o.pre p0 0⟩
 | [],_,q=>by simp
 | i::perm,h,q=>by
  have fG:i<l.length:=h i (by simp)
  have hi:l[i]?=some l[i]:=getElem?_eq_getElem fG
  rw [List.filterMap_cons,hi]
  simp only [map_some]
  cases q with
  | zero=>simp [hi]
  | succ q=>
   rw [List.getElem?_cons_succ,List.getElem?_cons_succ]
   exact Al (λi hi=>h i (by simp [hi])) q
theorem FE {ops:Array Oper} {l:List aK} {perm:List Nat} (hc:qg P N ops=some (l,perm)):P.follows .mixedOrders=true/\kD ops.toList 0=true/\Laid P N ops l (λq=>perm.getD q 0) (iM l)/\∀(q:Nat) (d:aK),l[q]?=some d->cD d=true->d.op.guard=none:=by
 unfold qg at hc
 split at hc
 ·rename_i ios ub
  simp only at hc
  split at hc
  ·rename_i kT
   simp only [Option.some.injEq,Prod.mk.injEq] at hc
   obtain ⟨hl,hp⟩:=hc
   rw [hp] at hl kT
   rw [hl] at kT
   simp only [and_eq_true] at kT
   obtain ⟨⟨oc,hQ⟩,ak⟩:=kT
   obtain ⟨g1,g2⟩:=th ub
   have hpl:(cZ (ops.toList.map bE) []).length=ops.size:=by rw [qc];simp
   have ue:ios.length<=(cZ (ops.toList.map bE) []).length:=by rw [qc];simp [g1]
   obtain ⟨z1,z2⟩:=wO ue
   have hz:(fB ios (cZ (ops.toList.map bE) [])).length=ops.size:=by rw [z1,g1];simp
   unfold okF at ak
   simp only [and_eq_true,beq_iff_eq] at ak
   obtain ⟨⟨⟨⟨⟨⟨⟨o1,o2⟩,o3⟩,o4⟩,o5⟩,o6⟩,o7⟩,o8⟩:=ak
   rw [hpl] at o1 o2 o4 o7
   rw [all_eq_true] at o4 o5 o6 o7 o8
   have hlt:∀i∈perm,i<ops.size:=λi hi=>by simpa using o4 i hi
   have az:∀q,q<ops.size->perm.getD q 0∈perm:=by
    intro q hq
    have:q<perm.length:=by omega
    rw [List.getD_eq_getElem?_getD,getElem?_eq_getElem this]
    exact List.getElem_mem this
   have hX:=y6 o3
   have inj:∀q k,q<ops.size->k<ops.size->perm.getD q 0=perm.getD k 0->q=k:=by
    intro q k hq hk he
    have dt:q<perm.length:=by omega
    have bH:k<perm.length:=by omega
    rw [List.getD_eq_getElem?_getD,List.getD_eq_getElem?_getD,getElem?_eq_getElem dt,getElem?_eq_getElem bH] at he
    simp only [getD_some] at he
    have hp:=List.pairwise_iff_getElem.1 hX
    rcases Nat.lt_trichotomy q k with h | h | h
    ·exact absurd he (hp q k dt bH h)
    ·exact h
    ·exact absurd he.symm (hp k q bH dt h)
   have mem:∀{q d},l[q]?=some d->(d,q)∈l.zipIdx:=λh=>List.mem_zipIdx_iff_getElem?.2 h
   refine ⟨oc,hQ,⟨o1,λq hq=>hlt _ (az q hq),inj,?_,?_,?_,?_,?_,Nat.sub_le _ _,?_,?_⟩,?_⟩
   ·intro j hj
    have dr:j∈perm:=by
     apply byContradiction
     intro aH
     have ov:perm ⊆ (List.range ops.size).erase j:=by
      intro x hx
      have Is:x≠j:=by rintro rfl;exact aH hx
      rw [List.mem_erase_of_ne Is]
      exact mem_range.2 (hlt x hx)
     have:=rf hX ov
     rw [List.length_erase_of_mem (mem_range.2 hj),List.length_range] at this
     omega
    obtain ⟨q,hq,e⟩:=List.mem_iff_getElem.1 dr
    exact ⟨q,by omega,by rw [List.getD_eq_getElem?_getD,getElem?_eq_getElem hq,getD_some,e]⟩
   ·intro q o d ho hd
    have hZ:q<ops.size:=by rw [<-o1];exact (bw hd).1
    have dt:q<perm.length:=by omega
    have hU:=Al (l:=fB ios (cZ (ops.toList.map bE) [])) (fl:=tD (fB ios (cZ (ops.toList.map bE) []))) (p0:=perm) (perm:=perm) (λi hi=>by rw [hz];exact hlt i hi) q
    have iN:=hl
    unfold Ak at iN
    rw [iN,hd] at hU
    rw [getElem?_eq_getElem dt] at hU
    simp only [bind_some] at hU
    have HK:perm.getD q 0=perm[q]:=by rw [List.getD_eq_getElem?_getD,getElem?_eq_getElem dt];rfl
    rw [HK] at ho
    cases uA:(fB ios (cZ (ops.toList.map bE) []))[perm[q]]? with
    | none=>rw [uA] at hU;cases hU
    | some dz=>
     rw [uA] at hU
     simp only [map_some,Option.some.injEq] at hU
     have hx:=(z2 _ _ uA).1
     have eL:=g2 _ o dz.op (by simpa using ho) hx
     obtain ⟨c1,c2,c3,c4,c5⟩:=qi eL
     have Js:∀a,dz.op.op≠ .e (.fl a):=by
      intro a e
      rw [e] at c3
      exact FG c3
     refine ⟨dz.op,eL,?_⟩
     have plain:d.op=dz.op->dz.op.dst=d.op.dst/\dz.op.guard=d.op.guard/\tmpsOf dz.op.op.cj=tmpsOf d.op.op.cj/\((cD d=false/\dz.op.op=d.op.op)∨∃a,dz.op.op=.e a.rV/\d.op.op=.e (.fl a)/\d.op.guard=none):=by
      intro e
      refine ⟨by rw [e],by rw [e],by rw [e],.inl ⟨?_,by rw [e]⟩⟩
      cases hf:cD d with
      | false=>rfl
      | true=>
       obtain ⟨a,ha⟩:=lA.1 hf
       rw [e] at ha
       exact absurd ha (Js a)
     by_cases gH:(tD (fB ios (cZ (ops.toList.map bE) []))).contains perm[q]=true
     ·rw [if_pos gH] at hU
      have iL:d.op=nH dz.op:=by rw [hU]
      unfold nH at iL
      split at iL
      ·rename_i eo he hg
       split at iL
       ·rename_i a ha
        refine ⟨by rw [iL],by rw [iL,hg],?_,.inr ⟨a,by rw [he,Cz ha],by rw [iL],by rw [iL]⟩⟩
        rw [iL,he,<-Cz ha]
        cases a <;> rfl
       ·exact plain iL
      ·exact plain iL
     ·rw [if_neg gH] at hU
      exact plain (by rw [hU])
   ·intro q d hd k hk
    have h1:=o7 (d,q) (mem hd)
    rw [all_eq_true] at h1
    have:=h1 k (mem_range.2 hk)
    simpa using this
   ·intro j e he
    by_cases hj:j<ops.size
    ·have hg:ops.toList[j]?=some ops[j]:=by simp [hj]
     have:(ops.toList.map bE).getD j []=bE ops[j]:=by simp [getD,hj]
     rw [this] at he
     have:=pP hQ j ops[j] hg e he
     omega
    ·have:(ops.toList.map bE).getD j []=[]:=by simp [getD,le_of_not_lt hj]
     rw [this] at he
     simp at he
   ·intro i j oi oj hi hj
    have h1:=o5 (oj,j) (mem hj)
    rw [all_eq_true] at h1
    exact h1 (oi,i) (mem hi)
   ·intro q d hd hq hE
    have h1:=o6 (d,q) (mem hd)
    simp only at h1
    rw [if_pos hq,hE] at h1
    simpa using h1
   ·intro q d hd hq
    have h1:=o6 (d,q) (mem hd)
    simp only at h1
    rw [if_neg (by omega)] at h1
    simpa using h1
   ·intro q d hd hf
    have h1:=o8 (d,q) (mem hd)
    simp only [hf,Bool.not_true,Bool.false_or,Option.isNone_iff_eq_none] at h1
    exact h1
  ·cases hc
 ·cases hc
theorem IB {out:Bool} {id:Nat} {ops:Array Oper} {l:List aK} {perm:List Nat} {K:(Nat->Value)->ad->Prop} {f:Nat->Value} {h:ad} (hc:qg P N ops=some (l,perm)) (hi:dV P l 0 [] [] K f h):
  ∃f' h',cp P N out (.region id ops true) f h .normal f' h'/\K f' h':=by
 obtain ⟨oc,hQ,L,eU⟩:=FE hc
 obtain ⟨F,H,V,f1,f2,f3,T,_,_⟩:=uP hi
 simp only [zero_add] at f3
 refine ⟨F l.length,H l.length,?_,f3⟩
 intro S hS B ρ a w R
 refine wpIn_region_draw ?_
 intro t
 have uv:Region.schedule (P.follows .mixedOrders) ops t=Region.linearise .any ops t:=by
  unfold Region.schedule
  rw [oc]
  simp
 rw [uv]
 have ie:=As hQ t
 have lh:∀(l:List aK) (i:Nat) (f:Nat->Value),bj V [] l i f=f:=by
  intro l
  induction l with
  | nil=>intro i f;rfl
  | cons a l ih=>intro i f;simp [bj,ih]
 obtain ⟨os,eM⟩:=j7 L eU T (k:=0) (iM l) (by omega)
 rw [zero_add] at eM
 have R0:bD P N B ρ f h a { w with drawn:=w.drawn+1 }:=R.mono (Tr.drew R.heap _) (R.heap.drew _)
 have qE:H 0=h:=f2
 have TG:Tr ρ (H 0) w ρ (H (iM l)) { w with drawn:=w.drawn+1 }:=by
  rw [eM,qE]
  exact (Tr.drew R.heap _).trans (Tr.qy R0.heap os)
 have R1:bD P N B ρ (bj V [] l 0 (F 0)) (H (iM l)) a { w with drawn:=w.drawn+1 }:=by
  rw [lh,f1,eM,qE]
  exact R0.mono (Tr.qy R0.heap os) (R0.heap.qy os)
 refine FK L eU T ie (λj e hj=>by simp at hj) (λi hi=>by simp at hi) [] (λq=>by simp) (iM l) (le_refl _) L.head (λe oe he _ hf=>?_) S B ρ a _ R1 (le_refl _) ?_ TG _ ?_
 ·constructor
  ·intro h;simp at h
  ·intro hlt
   -- an effect at the head is a float
   rename_i hE
   rw [L.low e oe he hlt hE] at hf
   cases hf
 ·intro q d hq hf _
  obtain ⟨a',nO⟩:=lA.1 hf
  obtain ⟨_,oo,g1,g2,g3,_,g5,_⟩:=mj T hq nO (eU q d hq hf)
  have HP:q<iM l:=by
   apply byContradiction
   intro h'
   rw [L.high q d hq (by omega)] at hf
   cases hf
  constructor
  ·obtain ⟨JA,oh⟩:=j7 L eU T (k:=0) q (by omega)
   rw [zero_add,qE] at oh
   cases hr:ρ (H q).length with
   | none=>rfl
   | some r=>
    have:=R.heap.lt hr
    rw [oh] at this
    simp at this
    omega
  ·obtain ⟨JA,oh⟩:=j7 L eU T (k:=q+1) (iM l-(q+1)) (by omega)
   rw [show q+1+(iM l-(q+1))=iM l by omega] at oh
   rw [oh]
   have gI:=sN g1 (H q).length
   rw [<-g2] at gI
   unfold fu
   rw [gI]
   simp only [bind_some]
   rw [getElem?_append_left (by rw [g3];simp)]
 ·intro ae a' w' R' T'
  refine ⟨rfl,ae,R',?_⟩
  rw [qE] at T'
  exact T'
theorem IA {out:Bool} {id:Nat} {ops:Array Oper} {l:List aK} {K:(Nat->Value)->ad->Prop} {f:Nat->Value} {h:ad} (hc:tg P N ops=some l) (hi:dV P l 0 [] [] K f h):
  ∃f' h',cp P N out (.region id ops true) f h .normal f' h'/\K f' h':=by
 unfold tg at hc
 split at hc
 ·rename_i l' hl
  simp at hc;subst hc
  exact IC hl hi
 ·rw [Option.map_eq_some_iff] at hc
  obtain ⟨⟨l',perm⟩,hl,rfl⟩:=hc
  exact IB hl hi
end
end
section
section
variable {P : Program} {N : Nat}
theorem A5 (f:Nat->Value) (ks ls:List Nat) (xs:List Value) (h:xs=ls.map f):lR (ep (ks++ls) (ks.map f++xs)) f:=by
 subst h
 rw [<-List.map_append]
 exact rh f (ks++ls)
theorem u3 {out:Bool}:∀{c:Code} {hs eX:Hints} {ic:bW},cT P N c hs=some (ic,eX)->(out=true∨ek c=true)->∀{K:Exit->(Nat->Value)->ad->Prop} {f:Nat->Value} {h:ad},cM P ic K f h->
  ∃e f' h',cp P N out c f h e f' h'/\K e f' h':=by
 intro c
 induction c with
 | skip=>
  intro hs eX ic hc ho K f h hi
  simp [cT] at hc
  obtain ⟨rfl,_⟩:=hc
  exact ⟨.normal,f,h,λS hS B ρ a w R=>wpIn_skip ⟨rfl,ρ,R,Tr.refl R.heap⟩,hi⟩
 | region id ops draw=>
  intro hs eX ic hc ho K f h hi
  cases draw with
  | true=>
   simp only [cT] at hc
   split at hc
   ·rename_i l hl
    split at hc
    ·rename_i n8
     simp at hc
     obtain ⟨rfl,_⟩:=hc
     have dd:=GC (FI n8) hi
     rw [tj] at dd
     obtain ⟨f',h',r1,r2⟩:=IA (id:=id) hl dd
     exact ⟨.normal,f',h',r1,r2⟩
    ·cases hc
   ·cases hc
  | false=>
   simp only [cT] at hc
   split at hc
   ·rename_i l hl
    split at hc
    ·rename_i n8
     simp only [Option.some.injEq] at hc
     have he:ic=(kp (jn l) hs).1:=by rw [hc]
     subst he
     obtain ⟨f',h',r1,r2⟩:=KQ (i:=0) (os:=ops.toList) (ops:=ops) (λk o hk=>by simpa using hk) (by rw [tB];exact hl) (Jg n8) hi
     refine ⟨.normal,f',h',cp.region ?_,r2⟩
     rw [List.range_eq_range']
     simpa using r1
    ·cases hc
   ·simp at hc
    obtain ⟨rfl,_⟩:=hc
    exact (show False from hi).elim
 | seq x y uV uW=>
  intro hs eX ic hc ho K f h hi
  have uj:out=true∨ek x=true:=ho.imp id λh=>by simp only [ek,and_eq_true] at h;exact h.1
  have uk:out=true∨ek y=true:=ho.imp id λh=>by simp only [ek,and_eq_true] at h;exact h.2
  have both:∀{a b:bW} {h0 eY hs2:Hints} {ls:List Nat},cT P N x hs=some (a,h0)->cT P N y eY=some (b,hs2)->cM P (.seq a (nE ls b)) K f h->∃e f' h',cp P N out (.seq x y) f h e f' h'/\K e f' h':=by
   intro a b h0 eY hs2 ls ha hb hi
   obtain ⟨e,bG,h₁,r1,r2⟩:=uV ha uj hi
   by_cases he:e=.normal
   ·subst he
    obtain ⟨Gx,hw,r3⟩:=y5 r2
    obtain ⟨e',Gy,qS,s1,s2⟩:=uW hb uk r3
    exact ⟨e',Gy,qS,r1.seq (s1.weaken hw),s2⟩
   ·refine ⟨e,bG,h₁,r1.LD he,?_⟩
    cases e <;> first | exact absurd rfl he | exact r2
  simp only [cT] at hc
  split at hc
  ·rename_i a h0 eY ha
   split at hc
   ·rename_i b hs2 hb
    simp at hc
    obtain ⟨rfl,_⟩:=hc
    exact both ha hb hi
   ·cases hc
  ·rename_i a ha
   split at hc
   ·rename_i b hs2 hb
    simp at hc
    obtain ⟨rfl,_⟩:=hc
    exact both (ls:=[]) ha hb hi
   ·cases hc
  ·cases hc
 | cond c x y uV uW=>
  intro hs eX ic hc ho K f h hi
  have uj:out=true∨ek x=true:=ho.imp id λh=>by simp only [ek,and_eq_true] at h;exact h.1
  have uk:out=true∨ek y=true:=ho.imp id λh=>by simp only [ek,and_eq_true] at h;exact h.2
  simp only [cT] at hc
  split at hc
  ·rename_i ak
   split at hc
   ·rename_i a eY ha
    split at hc
    ·rename_i b hs2 hb
     simp at hc
     obtain ⟨rfl,_⟩:=hc
     rw [Ai] at hi
     simp only [iG] at hi
     split at hi
     ·rename_i t ht
      cases t
      ·simp at hi
       obtain ⟨e,bG,h₁,r1,r2⟩:=uW hb uk hi
       exact ⟨e,bG,h₁,cp.cond ak ht (by simpa using r1),r2⟩
      ·simp at hi
       obtain ⟨e,bG,h₁,r1,r2⟩:=uV ha uj hi
       exact ⟨e,bG,h₁,cp.cond ak ht (by simpa using r1),r2⟩
     ·exact hi.elim
    ·cases hc
   ·cases hc
  ·cases hc
 | block id c ih=>
  intro hs eX ic hc ho K f h hi
  simp only [cT] at hc
  split at hc
  ·rename_i a eY ha
   simp at hc
   obtain ⟨rfl,_⟩:=hc
   obtain ⟨e,bG,h₁,r1,r2⟩:=ih ha (ho.imp (λh=>h) λh=>h) hi
   refine ⟨_,bG,h₁,r1.block,?_⟩
   cases e with
   | exit i=>
    simp only [bz] at r2⊢
    split <;> rename_i h
    ·rw [if_pos h] at r2;exact r2
    ·rw [if_neg h] at r2;exact r2
   | _=>exact r2
  ·cases hc
 | loop c ih=>
  intro hs eX ic hc ho K f h hi
  simp only [cT] at hc
  split at hc
  ·rename_i ks ls eY
   split at hc
   ·rename_i a hs2 ha
    simp at hc
    obtain ⟨rfl,_⟩:=hc
    obtain ⟨J,μ,h0,H6⟩:=hi
    have key:∀(n:Nat) (xs:List Value) (hh:ad),μ xs hh=n->J xs hh->∃e f' h',fZ P N out c (ep (ks++ls) (ks.map f++xs)) hh e f' h'/\K e f' h':=by
     intro n
     induction n using Nat.strongRecOn with
     | _ n jz=>
      intro xs hh hn hJ
      obtain ⟨e,bG,h₁,r1,r2⟩:=ih ha (ho.imp (λh=>h) λh=>h) (H6 xs hh hJ)
      by_cases he:e=.normal
      ·subst he
       obtain ⟨hk,GM,hlt⟩:=r2
       obtain ⟨e',f',h',s1,s2⟩:=jz (μ (ls.map bG) h₁) (by omega) (ls.map bG) h₁ rfl GM
       refine ⟨e',f',h',fZ.next r1 (s1.weaken ?_),s2⟩
       rw [<-hk]
       exact A5 bG ks ls _ rfl
      ·refine ⟨e,bG,h₁,fZ.leave he r1,?_⟩
       cases e <;> first | exact absurd rfl he | exact r2
    obtain ⟨e,f',h',s1,s2⟩:=key _ (ls.map f) h rfl h0
    exact ⟨e,f',h',(s1.weaken (A5 f ks ls _ rfl)).run,s2⟩
   ·cases hc
  ·cases hc
 | exit id=>
  intro hs eX ic hc ho K f h hi
  simp [cT] at hc
  obtain ⟨rfl,_⟩:=hc
  exact ⟨.exit id,f,h,λS hS B ρ a w R=>wpIn_exit ⟨rfl,ρ,R,Tr.refl R.heap⟩,hi⟩
 | ret=>
  intro hs eX ic hc ho K f h hi
  simp [cT] at hc
  obtain ⟨rfl,_⟩:=hc
  exact ⟨.ret,f,h,λS hS B ρ a w R=>wpIn_ret ⟨rfl,ρ,R,Tr.refl R.heap⟩,hi⟩
 | rangeFunc g ps dF body=>
  intro hs eX ic hc ho K f h hi
  have ho:out=true:=ho.resolve_right (by simp [ek])
  subst ho
  simp only [cT] at hc
  split at hc
  ·rename_i ls eY
   split at hc
   ·rename_i hk
    simp at hc
    obtain ⟨rfl,_⟩:=hc
    simp only [and_eq_true] at hk
    obtain ⟨h',r1,r2⟩:=KP hk.1 hi
    exact ⟨.normal,f,h',r1,r2⟩
   ·cases hc
  ·cases hc
 | _=>intro hs eX ic hc;simp [cT] at hc
end
end
section
section
variable {P : Program} {ρ : ai} {h : ad} {w : World}
def mW:List Tmp->List Value->(Nat->Value)->Nat->Value
 | p::ps,v::vs,f=>mW ps vs (ku f p v)
 | _,_,f=>f
theorem BZ {N:Nat}:∀{ps:List Tmp} {args args':List Value} {f:Nat->Value} {tmps:Array Value},aC ρ args args'->(∀p∈ps,p<N)->tmps.size=N->(∀t,af ρ (f t) (tmps.getD t Go.undef))->
  ((ps.zip args').foldl (λ(t:Array Value) (p,v)=>t.setIfInBounds p v) tmps).size=N/\
   ∀t,af ρ (mW ps args f t) (((ps.zip args').foldl (λ(t:Array Value) (p,v)=>t.setIfInBounds p v) tmps).getD t Go.undef)
 | [],args,args',f,tmps,_,_,hs,hf=>⟨hs,hf⟩
 | p::ps,_,_,f,tmps,.nil,_,hs,hf=>⟨hs,hf⟩
 | p::ps,_,_,f,tmps,.cons (x:=x) (y:=y) ha hr,hp,hs,hf=>by
  simp only [List.zip_cons_cons,List.foldl_cons,mW]
  refine BZ hr (λq hq=>hp q (by simp [hq])) (by simpa using hs) ?_
  intro t
  simp only [iy]
  by_cases ht:t=p
  ·subst ht
   have:t<tmps.size:=by rw [hs];exact hp t (by simp)
   simp [Array.getD,this]
   exact ha
  ·rw [if_neg ht]
   have e:(tmps.setIfInBounds p y).getD t Go.undef=tmps.getD t Go.undef:=by
    simp only [Array.getD_eq_getD_getElem?,Array.getElem?_setIfInBounds]
    rw [if_neg (by omega)]
   rw [e]
   exact hf t
theorem marks.put {B:Nat} {l:Nat} {o:Obj}:∀{ds:List Deferred},(∀d∈ds,d≠mark l)->marks B ds w->marks B ds (w.putObj l o)
 | [],_,h=>by simpa [marks] using h
 | d::ds,bc,⟨⟨D,h1,h2,h3,h4⟩,h5⟩=>by
  refine ⟨⟨D,h1,h2,?_,h4⟩,marks.put (λd hd=>bc d (by simp [hd])) h5⟩
  rw [lI]
  ·exact h3
  ·rintro rfl
   exact bc d (by simp) h1
theorem marks.ne {B l:Nat} {rec:Loop} (hl:w.heap[l]?=some (.loop rec)):∀{ds:List Deferred},marks B ds w->∀d∈ds,d≠mark l
 | [],_,d,hd=>by simp at hd
 | d::ds,⟨⟨D,h1,h2,h3,h4⟩,h5⟩,d',hd=>by
  rcases mem_cons.1 hd with rfl | hd
  ·rintro e
   rw [h1] at e
   obtain rfl:=Ax e
   rw [hl] at h3
   cases h3
  ·exact marks.ne hl h5 d' hd
theorem AE {ae:ai} {h':ad} {w':World} (H':ar P ae h' w') (T:Tr ρ h w ae h' w') {l:Nat} {rec:Loop} (hlt:l<w.heap.size) (hl:w'.heap[l]?=some (.loop rec))
  (no:∀j s,ρ j=some s->s.aD=l->¬aI h j):∀j s,ae j=some s->s.aD=l->¬bF h' j:=by
 intro j s hj hs hv
 obtain ⟨c,ls,vs,hc⟩:=H'.Af hl hj hs hv
 cases hr:ρ j with
 | some s'=>
  have:=T.ext j s' hr
  rw [hj] at this
  cases this
  exact no j s hr hs (T.kinds j (T.cV j s hr) (.inr (.inr (.inl ⟨_,_,_,hc⟩))))
 | none=>
  obtain ⟨_,q⟩:=T.fresh j s hj hr
  rcases q with q | ⟨j',s',q1,q2,q3⟩
  ·omega
  ·exact no j' s' q1 (q2.trans hs) q3
theorem ar.rH (H:ar P ρ h w) {i:Nat} {r:RI} {o:aA} {x:Obj} (hi:ρ i=some r) (no:∀j s,ρ j=some s->s.aD=r.aD->¬bF h j) (ho:eI ρ (w.putObj r.aD x) r o):
  ar P ρ (h.set i o) (w.putObj r.aD x):=by
 have hlt:=H.lt hi
 have ml:∀j,j≠i->aI (h.set i o) j->aI h j:=by
  intro j e hm
  unfold aI at hm⊢
  rw [getElem?_set_ne (Ne.symm e)] at hm
  exact hm
 have ll:∀j,j≠i->bF (h.set i o) j->bF h j:=by
  intro j e hm
  unfold bF at hm⊢
  rw [getElem?_set_ne (Ne.symm e)] at hm
  exact hm
 refine ⟨?_,?_,H.aL⟩
 ·intro j s hj
  by_cases e:j=i
  ·subst e
   rw [hi] at hj
   cases hj
   exact ⟨o,by rw [getElem?_set_self hlt],ho⟩
  ·obtain ⟨o',bg,hr⟩:=H.obj j s hj
   refine ⟨o',by rw [getElem?_set_ne (Ne.symm e)];exact bg,?_⟩
   by_cases hd:o'=.dead
   ·subst hd;trivial
   ·refine hr.mono (.refl _) (lI ?_)
    intro e'
    exact no j s hj e' ⟨o',bg,hd⟩
 ·intro a b s t ha hb bZ hm hl
  by_cases ea:a=i <;> by_cases eb:b=i
  ·omega
  ·subst ea
   rw [hi] at ha;cases ha
   exact absurd (ll b eb hl) (no b t hb bZ.symm)
  ·subst eb
   rw [hi] at hb;cases hb
   exact absurd (ml a ea hm).live (no a s ha bZ)
  ·exact H.inj a b s t ha hb bZ (ml a ea hm) (ll b eb hl)
theorem Tr.rH {ae:ai} {h':ad} {w':World} {i:Nat} (hm:aI h i) (T:Tr ρ (h.set i .dead) w ae h' w') (o:aA):Tr ρ h w ae (h'.set i o) w':=by
 have ml:∀j,aI (h.set i .dead) j->aI h j:=by
  intro j hj
  by_cases e:j=i
  ·subst e;exact hm
  ·unfold aI at hj⊢
   rw [getElem?_set_ne (Ne.symm e)] at hj
   exact hj
 exact {
  ext:=T.ext
  len:=by simpa using T.len
  cV:=λj s hj=>by simpa using T.cV j s hj
  kinds:=by
   intro j hj nW
   by_cases e:j=i
   ·subst e;exact hm
   ·refine ml j (T.kinds j (by simpa using hj) ?_)
    unfold aI at nW⊢
    rw [getElem?_set_ne (Ne.symm e)] at nW
    exact nW
  fresh:=by
   intro j s h1 h2
   obtain ⟨q1,q2⟩:=T.fresh j s h1 h2
   refine ⟨by simpa using q1,q2.imp (λh=>h) ?_⟩
   rintro ⟨j',s',a,b,c⟩
   exact ⟨j',s',a,b,ml j' c⟩
  cu:=T.cu
  ck:=λk hk aH=>T.ck k hk λj s hj hs Hu=>aH j s hj hs (ml j Hu)
  os:=T.os
  tape:=T.tape
  output:=T.output }
theorem Tr.B4 {i:Nat} {r:RI} (hd:∀j s,ρ j=some s->j<h.length) (hi:ρ i=some r) {h₁:ad} (hl:h₁.length=h.length) (hm:aI h₁ i) (x:Obj):Tr ρ h₁ w ρ h₁ (w.putObj r.aD x) where
 ext:=.refl _
 len:=le_refl _
 cV:=λj s hj=>by rw [hl];exact hd j s hj
 kinds:=λ_ _ h=>h
 fresh:=λj s h1 h2=>by rw [h1] at h2;cases h2
 cu:=by rw [World.putObj_size];exact le_refl _
 ck:=λk hk aH=>lI λe=>aH i r hi e.symm hm
 os:=rfl
 tape:=rfl
 output:=rfl
theorem LJ {h:ad} {i:Nat} {o:aA} (hi:h[i]?=some o):h.set i o=h:=by
 apply List.ext_getElem?
 intro j
 by_cases e:j=i
 ·subst e
  rw [getElem?_set_self (bw hi).1,hi]
 ·rw [getElem?_set_ne (Ne.symm e)]
theorem Me {i:Nat} {c:nm} {ls:List Nat} {vs args:List Value} {ia ib:bW} {eY hs2 H8 H9:Hints} {K:Value->ad->Prop} (hi:h[i]?=some (.loop c ls vs)) (hn:args.length=c.ps.size)
  (hps:c.ps.all (·<c.N)=true) (ha:cT P c.N c.dF eY=some (ia,H8)) (hb:cT P c.N c.body hs2=some (ib,H9)) (na:ek c.dF=true) (nb:ek c.body=true)
  (hw:cM P ia (λe f1 h1=>e=.normal/\h1[i]?=some .dead/\cM P ib (λe _ h2=>e=.normal/\h2[i]?=some .dead/\K (.bool true) (h2.set i (.loop c ls vs))) f1 h1) (mW c.ps.toList args (ep ls vs)) (h.set i .dead)):
  oF P i args h K:=by
 obtain ⟨e1,f1,h1,r1,rfl,d1,ux⟩:=u3 (out:=false) ha (.inr na) hw
 obtain ⟨e2,f2,h2,r2,rfl,d2,hk⟩:=u3 (out:=false) hb (.inr nb) ux
 refine ⟨.bool true,h2.set i (.loop c ls vs),?_,hk⟩
 intro ρ r args' w qN gf H
 have oa:aI h i:=.inr (.inr (.inl ⟨_,_,_,hi⟩))
 obtain ⟨o,ho,ui⟩:=H.obj i r qN
 rw [hi] at ho
 cases ho
 obtain ⟨rec,g1,g2,g3,g4,g5,g6,g7,g8⟩:=ui
 have hlt:=(Array.getElem?_eq_some_iff.1 g1).1
 have ft:args'.size=rec.params.size:=by
  have:=gf.length
  rw [g6,<-hn,this]
  simp
 refine ⟨rec.fn,_,rec.assign,rec.body,run_yield g1 ft,?_⟩
 rw [g4,g5]
 have nT:(rec.params.zip args').foldl (λ(t:Array Value) (p,v)=>t.setIfInBounds p v) rec.tmps=(c.ps.toList.zip args'.toList).foldl (λ(t:Array Value) (p,v)=>t.setIfInBounds p v) rec.tmps:=by
  rw [g6,<-Array.toList_zip,Array.foldl_toList]
 obtain ⟨p1,p2⟩:=BZ (N:=c.N) (ps:=c.ps.toList) (f:=ep ls vs) (tmps:=rec.tmps) gf (by
  intro p hp
  rw [Array.all_eq_true'] at hps
  exact of_decide_eq_true (hps p (by simpa using hp))) g7 g8
 have R0:bD P c.N w.heap.size ρ (mW c.ps.toList args (ep ls vs)) (h.set i .dead) { tmps:=(rec.params.zip args').foldl (λ(t:Array Value) (p,v)=>t.setIfInBounds p v) rec.tmps,defers:=[] } w:=
  ⟨by rw [nT];exact p1,le_refl _,λt=>by rw [nT];exact p2 t,H.kill i⟩
 refine roundIn_of_wpIn (F:=Fence.wide) trivial ?_
 refine wpIn_mono (r1 (some r.aD) (λh=>by cases h) _ ρ _ w R0) ?_
 rintro e a1 w1 ⟨rfl,r7,R1,T1⟩
 have u1:∀j s,ρ j=some s->s.aD=r.aD->¬aI (h.set i .dead) j:=by
  intro j s hj hs hm
  by_cases e:j=i
  ·subst e
   unfold aI at hm
   rw [getElem?_set_self (H.lt qN)] at hm
   rcases hm with ⟨_,_,h1⟩ | ⟨_,h1⟩ | ⟨_,_,_,h1⟩ | ⟨_,_,h1⟩ | ⟨_,_,_,h1⟩ | ⟨_,_,_,_,h1⟩ <;> cases h1
  ·refine e (H.inj j i s r hj qN hs ?_ oa.live)
   unfold aI at hm⊢
   rw [getElem?_set_ne (Ne.symm e)] at hm
   exact hm
 have l1:w1.heap[r.aD]?=some (.loop rec):=(T1.ck _ hlt u1).trans g1
 have ug:=(Array.getElem?_eq_some_iff.1 l1).1
 refine ⟨_,run_beginRound l1 g2,?_⟩
 have vg:=AE R1.heap T1 hlt l1 u1
 have l2:(w1.putObj r.aD (.loop { rec with state:=.busy })).heap[r.aD]?=some (.loop { rec with state:=.busy }):=World.putObj_heap_same ug
 have R2:bD P c.N w.heap.size r7 f1 h1 a1 (w1.putObj r.aD (.loop { rec with state:=.busy })):=
  ⟨R1.size,marks.put (marks.ne l1 R1.defers) R1.defers,R1.tmp,R1.heap.put vg _⟩
 refine wpIn_mono (r2 (some r.aD) (λh=>by cases h) _ r7 a1 _ R2) ?_
 rintro e a3 w3 ⟨rfl,wQ,R3,T3⟩
 have l3:w3.heap[r.aD]?=some (.loop { rec with state:=.busy }):=(T3.ck _ (by simpa using ug) λj s hj hs hm=>vg j s hj hs hm.live).trans l2
 have Jr:=AE R3.heap T3 (by simpa using ug) l3 λj s hj hs hm=>vg j s hj hs hm.live
 have HY:({ ({ rec with state:=.busy }:Loop) with state:=if (none:Option Code).isNone then .ready else .done,pending:=none }:Loop)=rec:=by
  cases rec
  simp only at g2 g3
  subst g2
  subst g3
  rfl
 have he:=run_endRound (P:=P) none l3
 rw [HY] at he
 have uC:r7 i=some r:=T1.ext _ _ qN
 have uD:wQ i=some r:=T3.ext _ _ uC
 have Hs:=(Array.getElem?_eq_some_iff.1 l3).1
 refine ⟨_,_,he,.bool true,wQ,rfl,.bool _,?_,?_⟩
 ·refine R3.heap.rH uD Jr ⟨rec,World.putObj_heap_same Hs,g2,g3,g4,g5,g6,g7,λt=>(g8 t).mono (T1.ext.trans T3.ext)⟩
 ·have m1:aI (h1.set i (.loop c ls vs)) i:=.inr (.inr (.inl ⟨c,ls,vs,getElem?_set_self (R1.heap.lt uC)⟩))
  have m3:aI (h2.set i (.loop c ls vs)) i:=.inr (.inr (.inl ⟨c,ls,vs,getElem?_set_self (R3.heap.lt uD)⟩))
  have A:=T1.rH oa (.loop c ls vs)
  have B:=Tr.B4 (w:=w1) (λj s hj=>R1.heap.lt hj) uC (h₁:=h1.set i (.loop c ls vs)) (by simp) m1 (.loop { rec with state:=.busy })
  have e1:(h1.set i (.loop c ls vs)).set i .dead=h1:=by rw [List.set_set,LJ d1]
  have C:Tr r7 (h1.set i (.loop c ls vs)) _ wQ (h2.set i (.loop c ls vs)) w3:=Tr.rH m1 (by rw [e1];exact T3) _
  have D:=Tr.B4 (w:=w3) (λj s hj=>R3.heap.lt hj) uD (h₁:=h2.set i (.loop c ls vs)) (by simp) m3 (.loop rec)
  exact ((A.trans B).trans C).trans D
end
end
section
inductive dY where
 | tmp (t:Nat)
 | cell (agg:Bool) (n:Nat) (a:Nat)
def kl (r:dY) (f:Nat->Value) (h:ad):Option Value:=
 match r with
 | .tmp t=>some (f t)
 | .cell agg n a=>ax agg n h (f a)
def fK:List dY->(Nat->Value)->ad->Option (List Value)
 | [],_,_=>some []
 | r::rs,f,h=>match kl r f h,fK rs f h with
  | some v,some vs=>some (v::vs)
  | _,_=>none
def pack:List Value->Value
 | [v]=>v
 | vs=>.tuple vs.toArray
def jL:List dY->(Nat->Value)->ad->(List Value->Prop)->Prop
 | [],_,_,k=>k []
 | .tmp t::rs,f,h,k=>jL rs f h λvs=>k (f t::vs)
 | .cell agg n a::rs,f,h,k=>bK (ax agg n h (f a)) λv=>jL rs f h λvs=>k (v::vs)
def vX (rs:List dY) (K:Value->ad->Prop) (f:Nat->Value) (h:ad):Prop:=jL rs f h λvs=>K (pack vs) h
theorem vY:∀{rs:List dY} {f:Nat->Value} {h:ad} {k:List Value->Prop},jL rs f h k->∃vs,fK rs f h=some vs/\k vs
 | [],f,h,k,hr=>⟨[],rfl,hr⟩
 | .tmp t::rs,f,h,k,hr=>by
  obtain ⟨vs,h1,h2⟩:=vY (rs:=rs) hr
  exact ⟨f t::vs,by simp [fK,kl,h1],h2⟩
 | .cell agg n a::rs,f,h,k,hr=>by
  simp only [jL,bK] at hr
  split at hr
  ·rename_i v hv
   obtain ⟨vs,h1,h2⟩:=vY (rs:=rs) hr
   exact ⟨v::vs,by simp [fK,kl,h1,hv],h2⟩
  ·exact hr.elim
def xL (rs:List dY) (K:Value->ad->Prop):Exit->(Nat->Value)->ad->Prop
 | .normal,f,h=>vX rs K f h
 | .ret,f,h=>vX rs K f h
 | _,_,_=>False
def bY (args:List Value):Nat->Value:=λj=>args.getD j undef
def qj (P:Program):ResultVar->Option dY
 | .tmp t=>some (.tmp t)
 | .cell a t=>
  match P.underlying t with
  | some d=>if cB P t&&(fw d||P.cellsOf t==1) then some (.cell (fw d) (P.cellsOf t) a) else none
  | none=>none
def mg (P:Program):List ResultVar->Option (List dY)
 | []=>some []
 | r::rs=>match qj P r,mg P rs with
  | some x,some xs=>some (x::xs)
  | _,_=>none
def cz (P:Program) (F:FuncId) (hs:Hints):Option (Nat×bW×List dY):=
 match P.funcs[F]? with
 | some fn=>match fn.body with
  | some c=>match cT P fn.ntmps c hs,mg P fn.results.toList with
   | some (ic,_),some rs=>some (fn.ntmps,ic,rs)
   | _,_=>none
  | none=>none
 | none=>none
def df:Option (Nat×bW×List dY)->bW
 | some (_,c,_)=>c
 | none=>.skip
def bW.l:bW->bW
 | .seq a _=>a
 | .cut _ c=>c
 | .cond _ a _=>a
 | .block _ c=>c
 | .loop _ _ c=>c
 | c=>c
def bW.r:bW->bW
 | .seq _ b=>b
 | .cond _ _ b=>b
 | c=>c
section
variable {P : Program} {w : World} {ρ : ai} {h : ad}
def lK (tmps:Array Value):ResultVar->Sem Value
 | .tmp t=>pure (tmps.getD t Go.undef)
 | .cell b t=>do loadVar t (<-asAddr (tmps.getD b Go.undef))
theorem KS (fn:Func) (tmps:Array Value):results fn tmps=(do let vs <-fn.results.mapM (lK tmps);pure (if h:vs.size=1 then vs[0] else .tuple vs)):=by
 have e:(λr:ResultVar=>(match r with
   | .tmp t=>(pure (tmps.getD t Go.undef):Sem Value)
   | .cell a t=>do loadVar t (<-asAddr (tmps.getD a Go.undef))))=lK tmps:=by
  funext r
  cases r <;> rfl
 rw [<-e]
 rfl
theorem LB {N B:Nat} {f:Nat->Value} {a:Act} (R:bD P N B ρ f h a w) {r:ResultVar} {x:dY} (hc:qj P r=some x) {v:Value} (hv:kl x f h=some v):
  ∃v',(lK a.tmps r).run P w=.ok v' w/\af ρ v v':=by
 cases r with
 | tmp t=>
  simp [qj] at hc;subst hc
  simp [kl] at hv;subst hv
  exact ⟨_,rfl,R.tmp t⟩
 | cell b t=>
  simp only [qj] at hc
  split at hc
  ·rename_i d ht
   split at hc
   ·rename_i hk
    simp at hc;subst hc
    simp only [and_eq_true] at hk
    simp only [kl] at hv
    obtain ⟨v',q1,q2⟩:=Cl R.heap ht hk.1 hv (R.tmp b)
    refine ⟨v',?_,q2⟩
    have gl:=hv
    unfold ax at gl
    split at gl
    ·rename_i i o G9
     have:=R.tmp b
     rw [G9] at this
     obtain ⟨r',_,e⟩:=this.oS
     simp only [lK]
     rw [e] at q1⊢
     simpa [Instr.loadAt,Instr.sureAddr,asAddr] using q1
    ·cases gl
   ·cases hc
  ·cases hc
theorem Cr {α β:Type} (g:α->Sem β) (w:World):∀{xs:List α} {ys:List β},(∀(k:Nat) (x:α),xs[k]?=some x->∃y,ys[k]?=some y/\(g x).run P w=.ok y w)->xs.length=ys.length->(xs.mapM g).run P w=.ok ys w
 | [],[],_,_=>rfl
 | x::xs,y::ys,h,hl=>by
  obtain ⟨y',h1,h2⟩:=h 0 x rfl
  simp at h1;subst h1
  have ih:=Cr g w (xs:=xs) (ys:=ys) (λk a hk=>by simpa using h (k+1) a (by simpa using hk)) (by simpa using hl)
  simp only [List.mapM_cons,Sem.run_bind,h2,Result.andThen_ok,ih,Sem.run_pure]
theorem Ct {N B:Nat} {f:Nat->Value} {a:Act} (R:bD P N B ρ f h a w):∀{l:List ResultVar} {rs:List dY} {vs:List Value},mg P l=some rs->fK rs f h=some vs->
  ∃dm:List Value,aC ρ vs dm/\l.length=dm.length/\∀(k:Nat) (r:ResultVar),l[k]?=some r->∃y,dm[k]?=some y/\(lK a.tmps r).run P w=.ok y w
 | [],rs,vs,hc,hv=>by
  simp [mg] at hc;subst hc
  simp [fK] at hv;subst hv
  exact ⟨[],.nil,rfl,λk r hk=>by simp at hk⟩
 | r::l,rs,vs,hc,hv=>by
  simp only [mg] at hc
  split at hc
  ·rename_i x xs h1 h2
   simp at hc;subst hc
   simp only [fK] at hv
   split at hv
   ·rename_i v vs h3 h4
    simp at hv;subst hv
    obtain ⟨v',q1,q2⟩:=LB R h1 h3
    obtain ⟨dm,s1,s2,s3⟩:=Ct R h2 h4
    refine ⟨v'::dm,.cons q2 s1,by simp [s2],?_⟩
    intro k r' hk
    cases k with
    | zero=>simp at hk;subst hk;exact ⟨v',rfl,q1⟩
    | succ k=>simpa using s3 k r' (by simpa using hk)
   ·cases hv
  ·cases hc
theorem LC {N B:Nat} {f:Nat->Value} {a:Act} (R:bD P N B ρ f h a w) {fn:Func} {rs:List dY} {vs:List Value} (hc:mg P fn.results.toList=some rs) (hv:fK rs f h=some vs):
  ∃v',(results fn a.tmps).run P w=.ok v' w/\af ρ (pack vs) v':=by
 obtain ⟨dm,h1,h2,h3⟩:=Ct R hc hv
 have hm:=Cr (P:=P) (lK a.tmps) w h3 h2
 have ct:(fn.results.mapM (lK a.tmps)).run P w=.ok dm.toArray w:=by
  rw [Array.mapM_eq_mapM_toList]
  simp only [Sem.run_map,hm,Result.andThen_ok]
 refine ⟨if h:dm.toArray.size=1 then dm.toArray[0] else .tuple dm.toArray,?_,?_⟩
 ·rw [KS]
  simp only [Sem.run_bind,ct,Result.andThen_ok,Sem.run_pure]
 ·cases h1 with
  | nil=>simpa [pack] using af.iV (ρ:=ρ) .nil
  | cons a1 a2=>
   cases a2 with
   | nil=>simpa [pack] using a1
   | cons b1 b2=>simpa [pack] using af.iV (.cons a1 (.cons b1 b2))
theorem Gw {args:List Value} {args':Array Value} (hv:aC ρ args args'.toList) (N:Nat) (t:Nat):af ρ (bY args t) ((args'++replicate (N-args'.size) Go.undef).getD t Go.undef):=by
 unfold bY
 have hl:=hv.length
 by_cases ht:t<args.length
 ·obtain ⟨y,hy,hr⟩:=hv.get (k:=t) (x:=args[t]) (getElem?_eq_getElem ht)
  have hs:t<args'.size:=by simpa using (by omega:t<args'.toList.length)
  have e1:args.getD t undef=args[t]:=by simp [getD,ht]
  rw [e1,Array.getD_eq_getD_getElem?,Array.getElem?_append_left hs]
  simp only [Array.getElem?_toList] at hy
  rw [hy]
  exact hr
 ·have e1:args.getD t undef=undef:=by simp [getD,le_of_not_lt ht]
  have e2:(args'++replicate (N-args'.size) Go.undef).getD t Go.undef=undef:=by
   have hs:¬t<args'.size:=by simp at hl;omega
   rw [Array.getD_eq_getD_getElem?,Array.getElem?_append_right (by omega)]
   by_cases h2:t-args'.size<N-args'.size
   ·simp [h2]
   ·simp [h2]
  rw [e1,e2]
  exact af.undef _
theorem Tr.Jd {ae:ai} {h':ad} {w':World} (T:Tr ρ h w ae h' w') {l:Nat} (hl:w.heap.size<=l) (o:Obj):Tr ρ h w ae h' (w'.putObj l o) where
 ext:=T.ext
 len:=T.len
 cV:=T.cV
 kinds:=T.kinds
 fresh:=T.fresh
 cu:=by rw [World.putObj_size];exact T.cu
 ck:=λk hk aH=>by rw [lI (by omega)];exact T.ck k hk aH
 os:=T.os
 tape:=T.tape
 output:=T.output
theorem Aq {ae:ai} {h':ad} {fn:Func} {tmps:Array Value} {Q:Ending->World->Prop}:∀{ds:List Deferred} {w':World},marks w.heap.size ds w'->ar P ae h' w'->Tr ρ h w ae h' w'->
  (∀er,ar P ae h' er->Tr ρ h w ae h' er->∃v,(results fn tmps).run P er=.ok v er/\Q (.returned v) er)->LeavesInM Fence.wide 0 P fn tmps Q ds .returning w'
 | [],w',_,H,T,hq=>hq w' H T
 | d::ds,w',⟨⟨D,h1,h2,h3,h4⟩,h5⟩,H,T,hq=>by
  refine ⟨by simp,.inl ⟨D,_,by rw [h1];rfl,run_takeDeferred h3,?_⟩⟩
  exact Aq (marks.put (λd hd=>h4 d hd) h5) (H.put (λj s hj hs=>H.vh h3 hj hs) _) (T.Jd h2 _) hq
theorem zV {F:FuncId} {N:Nat} {ic:bW} {rs:List dY} {hs:Hints} (hc:cz P F hs=some (N,ic,rs)) {args:List Value} (ha:args.length<=N) {K:Value->ad->Prop}
  (hi:cM P ic (xL rs K) (bY args) h):gO P F args h K:=by
 unfold cz at hc
 split at hc
 ·rename_i fn hf
  split at hc
  ·rename_i c hb
   split at hc
   ·rename_i MM _ KW h1 h2
    simp at hc
    obtain ⟨hN,rfl,rfl⟩:=hc
    obtain ⟨e,f',h',r1,r2⟩:=u3 (out:=true) h1 (.inl rfl) hi
    have oq:(e=.normal∨e=.ret)/\vX KW K f' h':=by
     cases e <;> first | exact ⟨.inl rfl,r2⟩ | exact ⟨.inr rfl,r2⟩ | exact r2.elim
    obtain ⟨he,oq⟩:=oq
    obtain ⟨vs,Ip,oq⟩:=vY oq
    ·refine ⟨pack vs,h',?_,oq⟩
     intro ρ args' w hv H
     refine callsIn_wide.1 (callsIn_of_wp_marks (F:=Fence.wide) (n:=0) hf hb trivial ?_ rfl)
     have ft:args'.size=args.length:=by have:=hv.length;simpa using this.symm
     have R:bD P fn.ntmps w.heap.size ρ (bY args) h { tmps:=args'++replicate (fn.ntmps-args'.size) Go.undef,defers:=[] } w:=⟨by simp;omega,le_refl _,Gw hv fn.ntmps,H⟩
     refine wpIn_mono (r1 none (λ_=>rfl) _ ρ _ w R) ?_
     rintro e' a' w' ⟨rfl,ae,R',T⟩
     have key:LeavesInM Fence.wide 0 P fn a'.tmps (λe w'=>∃v' ae,e=.returned v'/\af ae (pack vs) v'/\ar P ae h' w'/\Tr ρ h w ae h' w') a'.defers .returning w':=by
      refine Aq R'.defers R'.heap T ?_
      intro er wZ jP
      have gX:bD P fn.ntmps 0 ae f' h' { a' with defers:=[] } er:=⟨R'.size,Nat.zero_le _,R'.tmp,wZ⟩
      obtain ⟨v',q1,q2⟩:=LC gX h2 Ip
      exact ⟨v',q1,v',ae,rfl,q2,wZ,jP⟩
     rcases he with rfl | rfl
     ·exact key
     ·exact key
   ·cases hc
  ·cases hc
 ·cases hc
theorem zU {F:FuncId} {args:List Value} {h:ad} {v:Value} (hi:gO P F args h λu _=>u=v) {ρ:ai} {args':Array Value} {w:World} (hv:aC ρ args args'.toList) (H:ar P ρ h w)
  (eE:∀i,¬aI h i):Calls P F args' w λe w'=>(∃v' ae,e=.returned v'/\af ae v v')/\RowKit.Below w.heap.size w w':=by
 obtain ⟨u,h',hc,rfl⟩:=hi
 refine (hc ρ args' w hv H).mono ?_
 rintro e w' ⟨v',ae,rfl,h1,_,T⟩
 exact ⟨⟨v',ae,rfl,h1⟩,⟨T.os,T.tape,T.output,T.cu,λk hk=>T.ck k hk λj s _ _ hm=>eE j hm⟩⟩
end
end
section
abbrev VK:=Value->ad->Prop
abbrev LQ:=List Value->ad->Prop
abbrev gm (a n:Nat):ey:=⟨some a,.p (.mv (.tmp n))⟩
abbrev gd (a n m:Nat):dA:=⟨some a,.p (.mv (.tmp n)),m⟩
abbrev ci (n:Int):Operand:=.const (.int .i64 n)
inductive OP (o:Option Value) (K:Value->Prop):Prop | mk:bK o K->OP o K
inductive OH (o:Option (Value×ad)) (K:Value->ad->Prop):Prop | mk:fe o K->OH o K
inductive aT (c:Value) (a b:Prop):Prop | mk:iG c a b->aT c a b
inductive bP (v:Value) (b:Bool) (A B:Prop):Prop | mk:dI v b A B->bP v b A B
inductive aB (Q:(Nat->Value)->ad->Prop) (ls:List Nat) (vs:List Value) (h:ad):Prop | mk:qk Q ls vs h->aB Q ls vs h
inductive cn (init:List Value) (h:ad) (Q:(List Value->ad->Prop)->List Value->ad->Prop):Prop | mk:oH init h Q->cn init h Q
inductive ay (P:Program) (F:FuncId) (args:List Value) (h:ad) (K:Value->ad->Prop):Prop | mk:gO P F args h K->ay P F args h K
inductive l5 (P:Program) (x:Value) (args:List Value) (h:ad) (K:Value->ad->Prop):Prop | mk:iF P x args h K->l5 P x args h K
inductive pL (P:Program) (g:Value) (ls:List Nat) (vs:List Value) (c:nm) (h:ad) (K:ad->Prop):Prop | mk:ko P g ls vs c h K->pL P g ls vs c h K
theorem Eb:pL=ko:=funext λ_=>funext λ_=>funext λ_=>funext λ_=>funext λ_=>funext λ_=>funext λ_=>propext ⟨λ⟨h⟩=>h,.mk⟩
theorem np:OP=bK:=funext λ_=>funext λ_=>propext ⟨λ⟨h⟩=>h,.mk⟩
theorem xz:OH=fe:=funext λ_=>funext λ_=>propext ⟨λ⟨h⟩=>h,.mk⟩
theorem C2:aT=iG:=funext λ_=>funext λ_=>funext λ_=>propext ⟨λ⟨h⟩=>h,.mk⟩
theorem wY:bP=dI:=funext λ_=>funext λ_=>funext λ_=>funext λ_=>propext ⟨λ⟨h⟩=>h,.mk⟩
theorem r9:aB=qk:=funext λ_=>funext λ_=>funext λ_=>funext λ_=>propext ⟨λ⟨h⟩=>h,.mk⟩
theorem Ea:cn=oH:=funext λ_=>funext λ_=>funext λ_=>propext ⟨λ⟨h⟩=>h,.mk⟩
theorem iY:ay=gO:=funext λ_=>funext λ_=>funext λ_=>funext λ_=>funext λ_=>propext ⟨λ⟨h⟩=>h,.mk⟩
theorem wU:l5=iF:=funext λ_=>funext λ_=>funext λ_=>funext λ_=>funext λ_=>propext ⟨λ⟨h⟩=>h,.mk⟩
theorem C1 (Q:(Nat->Value)->ad->Prop) (ls:List Nat) (vs:List Value) (h:ad):aB Q ls vs h=Q (ep ls vs) h:=by
 rw [r9]
 rfl
theorem aE {Q:(Nat->Value)->ad->Prop} {ls:List Nat} {vs:List Value} {h:ad} {A:Prop} (e:Q (ep ls vs) h=A):aB Q ls vs h=A:=(C1 _ _ _ _).trans e
def rD (o:ga) (g:Operand->Value) (k:Value->Prop):Prop:=
 match o with
 | .mv x=>k (g x)
 | .q8 n=>k (.int .i64 n)
 | .fn f a b=>k (.func (.func f) (a.map g).toArray (b.map g).toArray)
 | o=>OP (cP o g) k
theorem B3 (o:ga) (g:Operand->Value) (k:Value->Prop):rD o g k=bK (cP o g) k:=by
 unfold rD
 split
 ·rfl
 ·rfl
 ·rfl
 ·rw [np]
def rS (P:Program) (o:cN) (f:Nat->Value) (h:ad) (K:Value->ad->Prop):Prop:=
 match o with
 | .p o=>rD o (ev f) λv=>K v h
 | .l o=>OP (bM o (ev f) h) λv=>K v h
 | .e o=>OH (bU o (ev f) h) K
 | .call g args=>ay P g (args.map (ev f)) h K
 | .ed x args=>l5 P (ev f x) (args.map (ev f)) h K
theorem LO (P:Program) (o:cN) (f:Nat->Value) (h:ad) (K:Value->ad->Prop):rS P o f h K=aR P o f h K:=by
 cases o <;> simp only [rS,aR,B3,np,xz,iY,wU]
def qC (P:Program) (l:List ey) (K:(Nat->Value)->ad->Prop):(Nat->Value)->ad->Prop:=
 List.rec (motive:=λ_=>(Nat->Value)->ad->Prop) (λf h=>K f h) (λo _ ih f h=>rS P o.op f h λv h'=>ih (aX f o.dst v) h') l
theorem GI (P:Program) (l:List ey) (K:(Nat->Value)->ad->Prop):∀(f:Nat->Value) (h:ad),qC P l K f h=j1 P l K f h:=by
 induction l with
 | nil=>intro f h;rfl
 | cons o os ih=>
  intro f h
  show rS P o.op f h (λv h'=>qC P os K (aX f o.dst v) h')=_
  rw [LO,j1]
  congr 1
  funext v h'
  exact ih _ _
def vl (P:Program) (g:Option (Nat×Bool)) (l:List ey) (K:(Nat->Value)->ad->Prop) (f:Nat->Value) (h:ad):Prop:=
 match g with
 | none=>qC P l K f h
 | some (s,b)=>bP (f s) b (qC P l K f h) (K (pb l f) h)
theorem Jz (P:Program) (g:Option (Nat×Bool)) (l:List ey) (K:(Nat->Value)->ad->Prop) (f:Nat->Value) (h:ad):vl P g l K f h=jF P g l K f h:=by
 unfold vl jF
 split <;> simp only [GI,wY]
abbrev wW:=List (Nat×ad)->bn->Value->ad->Prop
def qo (P:Program) (io:cN) (pre j:Nat) (ah:List (Nat×ad)) (ag:bn) (f:Nat->Value) (h:ad) (next:wW):Prop:=
 match io with
 | .p po=>rD po (ev f) λv=>next ah ag v h
 | .l lo=>OP (bM lo (ev f) h) λv=>jS pre lo f v ah/\next ah (ag++[(j,lo,f,v)]) v h
 | .e (.fl a)=>OH (bU (.fl a) (ev f) h) λv h'=>OP (fu h' v) λu=>ee pre h' ag/\next (ah++[(j,h)]) (ag++[(j,.obj (.const v),f,u)]) v h'
 | .e eo=>OH (bU eo (ev f) h) λv h'=>ee pre h' ag/\next (ah++[(j,h)]) ag v h'
 | .call g args=>ay P g (args.map (ev f)) h λv h'=>ee pre h' ag/\next (ah++[(j,h)]) ag v h'
 | .ed x args=>l5 P (ev f x) (args.map (ev f)) h λv h'=>ee pre h' ag/\next (ah++[(j,h)]) ag v h'
theorem FL (P:Program) (io:cN) (pre j:Nat) (ah:List (Nat×ad)) (ag:bn) (f:Nat->Value) (h:ad) (next:wW):
  qo P io pre j ah ag f h next=dS P io pre j ah ag f h next:=by
 cases io with
 | e eo=>cases eo <;> simp only [qo,dS,np,xz]
 | _=>simp only [qo,dS,B3,np,iY,wU]
abbrev wV:=List (Nat×ad)->bn->(Nat->Value)->ad->Prop
def nK (P:Program):List dA->Nat->List (Nat×ad)->bn->wV->(Nat->Value)->ad->Prop
 | [],_,ah,ag,K,f,h=>K ah ag f h
 | o::os,j,ah,ag,K,f,h=>qo P o.op o.pre j ah ag f h λah ag v h'=>nK P os (j+1) ah ag K (aX f o.dst v) h'
theorem tH (P:Program):∀(l:List dA) (j:Nat) (ah:List (Nat×ad)) (ag:bn) (K:wV) (f:Nat->Value) (h:ad),nK P l j ah ag K f h=fF P l j ah ag K f h
 | [],_,_,_,_,_,_=>rfl
 | o::os,j,ah,ag,K,f,h=>by
  rw [nK,fF,FL]
  congr 1
  funext ah ag v h'
  exact tH P os _ _ _ _ _ _
def jk (P:Program):List (Option (Nat×Bool)×List dA)->Nat->List (Nat×ad)->bn->((Nat->Value)->ad->Prop)->(Nat->Value)->ad->Prop
 | [],_,_,_,K,f,h=>K f h
 | (none,l)::gs,j,ah,ag,K,f,h=>nK P l j ah ag (λah ag f h=>jk P gs (j+l.length) ah ag K f h) f h
 | (some (s,b),l)::gs,j,ah,ag,K,f,h=>
  bP (f s) b (nK P l j ah ag (λah ag f h=>jk P gs (j+l.length) ah ag K f h) f h)
   (jm l j ah ag (λah ag f h=>jk P gs (j+l.length) ah ag K f h) f h)
theorem tG (P:Program):∀(gs:List (Option (Nat×Bool)×List dA)) (j:Nat) (ah:List (Nat×ad)) (ag:bn) (K:(Nat->Value)->ad->Prop) (f:Nat->Value) (h:ad),
  jk P gs j ah ag K f h=fE P gs j ah ag K f h
 | [],_,_,_,_,_,_=>rfl
 | (none,l)::gs,j,ah,ag,K,f,h=>by
  have e:(λah ag f h=>jk P gs (j+l.length) ah ag K f h)=λah ag f h=>fE P gs (j+l.length) ah ag K f h:=by
   funext a b c d;exact tG P gs _ _ _ _ _ _
  rw [jk,fE,tH,e]
 | (some (s,b),l)::gs,j,ah,ag,K,f,h=>by
  have e:(λah ag f h=>jk P gs (j+l.length) ah ag K f h)=λah ag f h=>fE P gs (j+l.length) ah ag K f h:=by
   funext a b c d;exact tG P gs _ _ _ _ _ _
  rw [jk,fE,tH,e,wY]
noncomputable def al (P:Program) (c:bW):av->(Nat->Value)->ad->Prop:=
 bW.rec (motive:=λ_=>av->(Nat->Value)->ad->Prop)
  (λK f h=>K .normal f h)
  (λl K f h=>jk P l 0 [] [] (K .normal) f h)
  (λg l K f h=>vl P g l (K .normal) f h)
  (λ_ _ ia ib K f h=>ia (aG (ib K) K) f h)
  (λls _ ic K f h=>aB (ic K) ls (ls.map f) h)
  (λc _ _ ia ib K f h=>aT (ev f c) (ia K f h) (ib K f h))
  (λid _ ic K f h=>ic (bz id K) f h)
  (λks ls _ ic K f h=>cn (ls.map f) h λL xs hx=>aB (ic (aG (λf' aP=>ks.map f'=ks.map f/\L (ls.map f') aP) K)) (ks++ls) (ks.map f++xs) hx)
  (λid K f h=>K (.exit id) f h)
  (λK f h=>K .ret f h)
  (λg ls c K f h=>pL P (ev f g) ls (ls.map f) c h (K .normal f)) c
theorem IQ (P:Program) (c:bW):al P c=cM P c:=by
 induction c with
 | skip=>rfl
 | tl l=>funext K f h;exact tG P l 0 [] [] (K .normal) f h
 | ops g l=>funext K f h;exact Jz P g l (K .normal) f h
 | seq a b kj lz=>
  funext K f h
  show al P a (aG (al P b K) K) f h=cM P a (aG (cM P b K) K) f h
  rw [kj,lz]
 | cut ls c ih=>
  funext K f h
  show aB (al P c K) ls (ls.map f) h=qk (cM P c K) ls (ls.map f) h
  rw [ih,r9]
 | cond c a b kj lz=>
  funext K f h
  show aT (ev f c) (al P a K f h) (al P b K f h)=iG (ev f c) (cM P a K f h) (cM P b K f h)
  rw [kj,lz,C2]
 | block id c ih=>
  funext K f h
  show al P c (bz id K) f h=cM P c (bz id K) f h
  rw [ih]
 | loop ks ls c ih=>
  funext K f h
  show cn (ls.map f) h (λL xs hx=>aB (al P c (aG (λf' aP=>ks.map f'=ks.map f/\L (ls.map f') aP) K)) (ks++ls) (ks.map f++xs) hx)=
   oH (ls.map f) h (λL xs hx=>cM P c (aG (λf' aP=>ks.map f'=ks.map f/\L (ls.map f') aP) K) (ep (ks++ls) (ks.map f++xs)) hx)
  rw [ih,Ea,r9]
  rfl
 | exit id=>rfl
 | ret=>rfl
 | range g ls c=>
  funext K f h
  show pL P (ev f g) ls (ls.map f) c h (K .normal f)=ko P (ev f g) ls (ls.map f) c h (K .normal f)
  rw [Eb]
def mX:List dY->(Nat->Value)->ad->(List Value->Prop)->Prop
 | [],_,_,k=>k []
 | .tmp t::rs,f,h,k=>mX rs f h λvs=>k (f t::vs)
 | .cell agg n a::rs,f,h,k=>OP (ax agg n h (f a)) λv=>mX rs f h λvs=>k (v::vs)
theorem vZ:∀(rs:List dY) (f:Nat->Value) (h:ad) (k:List Value->Prop),mX rs f h k=jL rs f h k
 | [],_,_,_=>rfl
 | .tmp _::rs,f,h,k=>vZ rs f h _
 | .cell agg n a::rs,f,h,k=>by
  rw [mX,jL,np]
  congr 1
  funext v
  exact vZ rs f h _
def br (rs:List dY) (K:Value->ad->Prop):av
 | .normal,f,h=>mX rs f h λvs=>K (pack vs) h
 | .ret,f,h=>mX rs f h λvs=>K (pack vs) h
 | _,_,_=>False
theorem El (rs:List dY) (K:Value->ad->Prop):br rs K=xL rs K:=by
 funext e f h
 cases e <;> first | rfl | exact vZ rs f h _
theorem db {P:Program} {F:FuncId} {N:Nat} {ic:bW} {rs:List dY} {hs:Hints} {h:ad} (hc:cz P F hs=some (N,ic,rs)) {args:List Value} (ha:args.length<=N)
  {K:Value->ad->Prop} (hi:al P ic (br rs K) (bY args) h):ay P F args h K:=
 .mk (zV hc ha (by rw [<-IQ,<-El];exact hi))
end
section
section LY
variable {A B : Prop} {K : Value -> Prop} {K2 : Value -> ad -> Prop} {v : Value} {h : ad}
@[simp] theorem aq : OP (some v) K ↔ K v := ⟨λ⟨h⟩ => h, λh => .mk h⟩
@[simp] theorem cw : OH (some (v, h)) K2 ↔ K2 v h := ⟨λ⟨h⟩ => h, λh => .mk h⟩
theorem pI {o:Option (Value×ad)} (ho:o=some (v,h)) (hk:K2 v h):OH o K2:=by rw [ho];exact cw.2 hk
@[simp] theorem fT : aT (.bool true) A B ↔ A := ⟨λ⟨h⟩ => by simpa [iG] using h, λh => .mk (by simpa [iG] using h)⟩
@[simp] theorem fm : aT (.bool false) A B ↔ B := ⟨λ⟨h⟩ => by simpa [iG] using h, λh => .mk (by simpa [iG] using h)⟩
@[simp] theorem cI {p : Prop} [Decidable p] : aT (.bool (decide p)) A B ↔ (p -> A) /\ (¬ p -> B) := by by_cases hp : p <;> simp [hp]
@[simp] theorem Mi {p : Prop} [Decidable p] : aT (.bool (!decide p)) A B ↔ (¬ p -> A) /\ (p -> B) := by by_cases hp : p <;> simp [hp]
@[simp] theorem ky : bP (.bool true) true A B ↔ A := ⟨λ⟨h⟩ => by simpa [dI] using h, λh => .mk (by simpa [dI] using h)⟩
@[simp] theorem pk : bP (.bool true) false A B ↔ B := ⟨λ⟨h⟩ => by simpa [dI] using h, λh => .mk (by simpa [dI] using h)⟩
@[simp] theorem pj : bP (.bool false) true A B ↔ B := ⟨λ⟨h⟩ => by simpa [dI] using h, λh => .mk (by simpa [dI] using h)⟩
@[simp] theorem gW : bP (.bool false) false A B ↔ A := ⟨λ⟨h⟩ => by simpa [dI] using h, λh => .mk (by simpa [dI] using h)⟩
@[simp] theorem Mh {b : Bool} : bP undef b A B ↔ B := ⟨λ⟨h⟩ => by simpa [dI, undef] using h, λh => .mk (by simpa [dI, undef] using h)⟩
@[simp] theorem jx (a b : Value) : bJ (.bool true) a b = some a := rfl
@[simp] theorem iP (a b : Value) : bJ (.bool false) a b = some b := rfl
end LY
abbrev I (n:Int):Value:=.int .i64 n
abbrev B (b:Bool):Value:=.bool b
abbrev cv (c:UInt8):Value:=.int .u8 (c.toNat:Int)
abbrev pt (i o:Nat):Value:=.pointer (some ⟨i,o,none⟩)
theorem wrap64 {n:Int} (h1: -9223372036854775808<=n) (h2:n<9223372036854775808):IntKind.wrap .i64 n=n:=by
 have e:IntKind.wrap .i64 n=if n%18446744073709551616>=9223372036854775808 then n%18446744073709551616-18446744073709551616 else n%18446744073709551616:=by
  simp [IntKind.wrap,IntKind.bits,IntKind.signed]
 rw [e]
 split <;> omega
theorem gT {n:Int} (h1:0<=n) (h2:n<256):IntKind.wrap .u8 n=n:=by
 have e:IntKind.wrap .u8 n=n%256:=by
  simp [IntKind.wrap,IntKind.bits,IntKind.signed]
 rw [e]
 omega
section ints
variable (k : IntKind) (a b : Int)
@[simp] theorem dH : au .lss (.int k a) (.int k b) = some (.bool (decide (a < b))) := by simp [au, gp]
@[simp] theorem xJ : au .leq (.int k a) (.int k b) = some (.bool (decide (a <= b))) := by simp [au, gp]
@[simp] theorem pQ : au .gtr (.int k a) (.int k b) = some (.bool (decide (b < a))) := by simp [au, gp]
@[simp] theorem iD : au .geq (.int k a) (.int k b) = some (.bool (decide (b <= a))) := by simp [au, gp]
@[simp] theorem gC : au .eql (.int k a) (.int k b) = some (.bool (decide (a = b))) := by simp [au, gp]
@[simp] theorem pR : au .neq (.int k a) (.int k b) = some (.bool (!decide (a = b))) := by simp [au, gp]
@[simp] theorem dp : au .add (.int k a) (.int k b) = some (.int k (k.wrap (a + b))) := by simp [au, gp]
@[simp] theorem sQ : au .sub (.int k a) (.int k b) = some (.int k (k.wrap (a - b))) := by simp [au, gp]
@[simp] theorem Mk : au .mul (.int k a) (.int k b) = some (.int k (k.wrap (a * b))) := by simp [au, gp]
@[simp] theorem lO (b : Bool) : eG .not (.bool b) = some (.bool !b) := rfl
@[simp] theorem MZ : eG .neg (.int k a) = some (.int k (k.wrap (0 - a))) := rfl
@[simp] theorem nD (k' : IntKind) : jw k' (.int k a) = some (.int k' (k'.wrap a)) := rfl
@[simp] theorem Mt (n x y : Bool) : qU n (.bool x) (.bool y) = some (.bool (if n then !(x == y) else x == y)) := rfl
@[simp] theorem mi (i : Nat) (vs : Array Value) : gN i (.tuple vs) = vs[i]? := rfl
end ints
section strings
variable (a b : List UInt8)
@[simp] theorem xO (l : List UInt8) : bytes ⟨l.toArray⟩ = l := En l
@[simp] theorem jE : eN (S a) = some (I a.length) := by simp [eN, S]
@[simp] theorem Ej : au .eql (S a) (S b) = some (.bool (decide (a = b))) := by simp [au, ly, S]
@[simp] theorem Ek : au .neq (S a) (S b) = some (.bool (!decide (a = b))) := by simp [au, ly, S]
theorem sP (h:a.length+b.length<=maxLen):au .add (S a) (S b)=some (S (a++b)):=by
 simp only [au,ly,S,xO,if_pos h]
theorem ki {i:Nat} (h:i<a.length) (k:IntKind):du (S a) (.int k (i:Int))=some (cv a[i]):=by simp [du,S,h]
theorem LK {n:Nat} (h:n<=a.length) (k:IntKind):iQ (S a) none (some (.int k (n:Int)))=some (S (a.take n)):=by simp [iQ,S,kg,lF,h]
theorem LL {l n:Nat} (h0:l<=n) (h:n<=a.length) (k k':IntKind):iQ (S a) (some (.int k (l:Int))) (some (.int k' (n:Int)))=some (S ((a.take n).drop l)):=by simp [iQ,S,kg,lF,h,h0]
end strings
theorem ql (c d:UInt8):((c.toNat:Int)=(d.toNat:Int))↔c=d:=by
 rw [Int.natCast_inj]
 exact ⟨λh=>UInt8.toNat_inj.1 h,λh=>by rw [h]⟩
theorem Jm {σ:Type} {init:List Value} {h:ad} {Q:(List Value->ad->Prop)->List Value->ad->Prop} (enc:σ->List Value) (hp:σ->ad) (J:σ->Prop) (μ:σ->Nat) (s0:σ)
  (e0:enc s0=init) (eh:hp s0=h) (j0:J s0) (hr:∀s,J s->Q (λys hy=>∃s',enc s'=ys/\hp s'=hy/\J s'/\μ s'<μ s) (enc s) (hp s)):cn init h Q:=by
 refine .mk ?_
 have least:∀ys hy,(∃s,enc s=ys/\hp s=hy/\J s)->∃m,(∃s,enc s=ys/\hp s=hy/\J s/\μ s=m)/\∀s,enc s=ys->hp s=hy->J s->m<=μ s:=by
  rintro ys hy ⟨s,h1,h2,h3⟩
  have key:∀n,(∃s,enc s=ys/\hp s=hy/\J s/\μ s=n)->∃m,(∃s,enc s=ys/\hp s=hy/\J s/\μ s=m)/\∀s,enc s=ys->hp s=hy->J s->m<=μ s:=by
   intro n
   induction n using Nat.strongRecOn with
   | _ n ih=>
    intro hn
    by_cases hlt:∃s,enc s=ys/\hp s=hy/\J s/\μ s<n
    ·obtain ⟨s',a,b,c,d⟩:=hlt
     exact ih (μ s') d ⟨s',a,b,c,rfl⟩
    ·exact ⟨n,hn,λs' a b c=>le_of_not_lt λd=>hlt ⟨s',a,b,c,d⟩⟩
  exact key _ ⟨s,h1,h2,h3,rfl⟩
 classical
 refine ⟨λys hy=>∃s,enc s=ys/\hp s=hy/\J s,λys hy=>if hJ:∃s,enc s=ys/\hp s=hy/\J s then Classical.choose (least ys hy hJ) else 0,⟨s0,e0,eh,j0⟩,?_⟩
 rintro xs hx hJ
 have ot:=choose_spec (least xs hx hJ)
 simp only [dif_pos hJ]
 generalize Classical.choose (least xs hx hJ)=m at ot
 obtain ⟨⟨s,a,b,c,d⟩,_⟩:=ot
 have:=hr s c
 rw [a,b] at this
 have he:(λ(ys:List Value) (hy:ad)=>(∃s,enc s=ys/\hp s=hy/\J s)/\(if hJ:∃s,enc s=ys/\hp s=hy/\J s then Classical.choose (least ys hy hJ) else 0)<m)=
   λys hy=>∃s',enc s'=ys/\hp s'=hy/\J s'/\μ s'<μ s:=by
  funext ys hy
  apply propext
  constructor
  ·rintro ⟨mq,hlt⟩
   rw [dif_pos mq] at hlt
   obtain ⟨⟨s',a',b',c',d'⟩,_⟩:=choose_spec (least ys hy mq)
   exact ⟨s',a',b',c',by rw [d',d];exact hlt⟩
  ·rintro ⟨s',a',b',c',d'⟩
   refine ⟨⟨s',a',b',c'⟩,?_⟩
   rw [dif_pos ⟨s',a',b',c'⟩]
   have:=(choose_spec (least ys hy ⟨s',a',b',c'⟩)).2 s' a' b' c'
   omega
 rw [he]
 exact this
theorem ej {σ:Type} {init:List Value} {h:ad} {Q:(List Value->ad->Prop)->List Value->ad->Prop} (enc:σ->List Value) (hp:σ->ad) (J:σ->Prop) (μ:σ->Nat) (s0:σ)
  (e0:enc s0=init) (eh:hp s0=h) (j0:J s0) (hr:∀s,J s->∀L:List Value->ad->Prop,(∀s',J s'->μ s'<μ s->L (enc s') (hp s'))->Q L (enc s) (hp s)):cn init h Q:=
 Jm enc hp J μ s0 e0 eh j0 λs hs=>hr s hs _ λs' h1 h2=>⟨s',rfl,rfl,h1,h2⟩
def EX (h h':ad):Prop:=h.length<=h'.length/\∀i,i<h.length->h'[i]?=h[i]?
theorem EX.refl (h:ad):EX h h:=⟨le_refl _,λ_ _=>rfl⟩
theorem EX.trans {a b c:ad} (h:EX a b) (k:EX b c):EX a c:=⟨Nat.le_trans h.1 k.1,λi hi=>(k.2 i (Nat.lt_of_lt_of_le hi h.1)).trans (h.2 i hi)⟩
theorem EX.append (h g:ad):EX h (h++g):=⟨by simp,λi hi=>getElem?_append_left hi⟩
theorem EX.push {a h:ad} (k:EX a h) (g:ad):EX a (h++g):=k.trans (.append h g)
theorem EX.set {a h:ad} (k:EX a h) {i:Nat} (hi:a.length<=i) (o:aA):EX a (h.set i o):=⟨by simpa using k.1,λj hj=>by rw [getElem?_set_ne (by omega)];exact k.2 j hj⟩
theorem EX.get {a h:ad} (k:EX a h) {i:Nat} {o:aA} (hi:a[i]?=some o):h[i]?=some o:=by rw [k.2 i (bw hi).1];exact hi
theorem EX.cells {a h:ad} (k:EX a h) {i:Nat} {xs:List Value} (hi:bd a i=some xs):bd h i=some xs:=by
 unfold bd at hi⊢
 have hlt:i<a.length:=by
  apply byContradiction
  intro hc
  rw [List.getElem?_eq_none (le_of_not_lt hc)] at hi
  simp at hi
 rw [k.2 i hlt]
 exact hi
def bo:Value->Bool
 | .bool _ | .int .. | .string _ | .nilFunc | .nilIface=>true
 | .pointer none | .map none=>true
 | .slice none 0 0=>true
 | _=>false
theorem bo.rel {ρ ae:ai} {v v':Value} (h:bo v=true) (hv:af ρ v v'):af ae v v':=by
 unfold bo at h
 split at h
 ·cases hv;exact .bool _
 ·cases hv;exact .int _ _
 ·cases hv;exact .string _
 ·cases hv;exact .nilFunc
 ·cases hv;exact .nilIface
 ·cases hv;exact .nilPtr
 ·cases hv;exact .iR
 ·cases hv;exact .gv
 ·cases h
def Ren (V:Nat->Value):Prop:=∀(ρ ae:ai) (i j:Nat) (v':Value),ae j=ρ i->af ρ (V i) v'->af ae (V j) v'
theorem Ren.bo {v:Value} (h:bo v=true):Ren λ_=>v:=λ_ _ _ _ _ _ hv=>bo.rel h hv
theorem Ren.pt (o:Nat):Ren λi=>pt i o:=by
 intro ρ ae i j v' e hv
 cases hv with
 | ptr hr=>exact .ptr (by rw [e];exact hr)
theorem Ren.sl (e:TypeId) (o n:Nat):Ren λi=>sl e i o n:=by
 intro ρ ae i j v' he hv
 cases hv with
 | slice hr a b c d=>exact .slice (by rw [he];exact hr) a b c d
inductive ma:List (Nat->Value)->Prop
 | nil:ma []
 | cons {V:Nat->Value} {l:List (Nat->Value)}:Ren V->ma l->ma (V::l)
theorem ma.rel {l:List (Nat->Value)} (h:ma l) {ρ ae:ai} {i j:Nat} (e:ae j=ρ i):∀{ys:List Value},aC ρ (l.map (· i)) ys->aC ae (l.map (· j)) ys:=by
 induction h with
 | nil=>intro ys hv;cases hv;exact .nil
 | cons hV _ ih=>intro ys hv;cases hv with | cons a b=>exact .cons (hV _ _ _ _ _ e a) (ih b)
theorem Ren.tuple {l:List (Nat->Value)} (h:ma l):Ren λi=>.tuple (l.map (· i)).toArray:=by
 intro ρ ae i j v' e hv
 cases hv with
 | tuple hs hr=>
  rename_i xs'
  have:=h.rel e (aC.kr hs hr)
  have:=af.iV this
  simpa using this
section gc
variable {P : Program} {F : FuncId} {args : List Value} {h : ad}
def kn:aA->Bool
 | .ro _ xs | .arr _ xs=>xs.all bo
 | .smap es=>es.all λp=>bo p.2
 | .dW _ es=>es.all λp=>bo p.2
 | .cq _ _ es=>es.all λp=>bo p.2.2
 | _=>false
theorem kn.rel {ρ ae:ai} {w:World} {r:RI} {o:aA} (hp:kn o=true) (h:eI ρ w r o):eI ae w r o:=by
 have cells:∀{c:Array Value} {sh:Nat} {xs:List Value},xs.all bo=true->bV ρ c sh xs->bV ae c sh xs:=by
  intro c sh xs hs hc j x hj
  obtain ⟨h1,y,hy,hr⟩:=hc j x hj
  rw [all_eq_true] at hs
  exact ⟨h1,y,hy,bo.rel (hs x (mem_of_getElem? hj)) hr⟩
 cases o with
 | ro e xs=>obtain ⟨h1,c,t,fr,h2,h3,h4⟩:=h;exact ⟨h1,c,t,fr,h2,h3,cells hp h4⟩
 | arr e xs=>obtain ⟨h1,h0,c,h2,h3,h4⟩:=h;exact ⟨h1,h0,c,h2,h3,cells hp h4⟩
 | smap es=>
  obtain ⟨aj,clock,h1,h2,h3⟩:=h
  refine ⟨aj,clock,h1,h2,λj k v hj=>?_⟩
  obtain ⟨en,e1,e2,e3⟩:=h3 j k v hj
  simp only [kn,all_eq_true] at hp
  exact ⟨en,e1,e2,bo.rel (hp (k,v) (mem_of_getElem? hj)) e3⟩
 | dW kd es=>
  obtain ⟨aj,clock,h1,h2,h3⟩:=h
  refine ⟨aj,clock,h1,h2,λj k v hj=>?_⟩
  obtain ⟨en,e1,e2,e3⟩:=h3 j k v hj
  simp only [kn,all_eq_true] at hp
  exact ⟨en,e1,e2,bo.rel (hp (k,v) (mem_of_getElem? hj)) e3⟩
 | cq g c es=>
  obtain ⟨h0,aj,h1,h2,h3⟩:=h
  refine ⟨h0,aj,h1,h2,λj b k v hj=>?_⟩
  obtain ⟨e0,en,e1,e2,kG,e3⟩:=h3 j b k v hj
  simp only [kn,all_eq_true] at hp
  exact ⟨e0,en,e1,e2,kG,bo.rel (hp (b,k,v) (mem_of_getElem? hj)) e3⟩
 | iter m s n l=>cases hp
 | loop c ls vs=>cases hp
 | dead=>cases hp
theorem yX {K:Value->ad->Prop} {V:Nat->Value} {o:aA} (hV:Ren V) (ho:kn o=true)
  (hc:ay P F args h λu h'=>EX h h'/\∃i,h.length<=i/\h'[i]?=some o/\u=V i) (hk:K (V h.length) (h++[o])):ay P F args h K:=by
 rw [iY] at hc⊢
 obtain ⟨u,h',hc,hex,i,hi,az,rfl⟩:=hc
 refine ⟨_,_,?_,hk⟩
 intro ρ args' w hv H
 refine (hc ρ args' w hv H).mono ?_
 rintro e w' ⟨v',ae,rfl,gl,H',T⟩
 let fk:ai:=λk=>if k=h.length then ae i else ρ k
 have r1:fk h.length=ae i:=by simp [fk]
 have r2:∀k,k≠h.length->fk k=ρ k:=λk hk=>by simp [fk,hk]
 have r3:∀k r,ρ k=some r->ae k=some r/\k<h.length/\h'[k]?=h[k]?:=λk r hr=>⟨T.ext k r hr,H.lt hr,hex.2 k (H.lt hr)⟩
 have old:∀k,k<h.length->(h++[o])[k]?=h[k]?:=λk hk=>getElem?_append_left hk
 have new:(h++[o])[h.length]?=some o:=by simp
 have hle:ρ.le fk:=by
  intro k r hr
  rw [r2 k (by have:=H.lt hr;omega)]
  exact hr
 have mt:∀k,k<h.length->(aI (h++[o]) k↔aI h' k):=λk hk=>by unfold aI;rw [old k hk,hex.2 k hk]
 have lC:∀k,k<h.length->(bF (h++[o]) k↔bF h' k):=λk hk=>by unfold bF;rw [old k hk,hex.2 k hk]
 have vd:aI (h++[o]) h.length↔aI h' i:=by unfold aI;rw [new,az]
 have u9:bF (h++[o]) h.length↔bF h' i:=by unfold bF;rw [new,az]
 refine ⟨v',fk,rfl,hV ae fk i h.length v' r1 gl,⟨?_,?_,?_⟩,?_⟩
 ·intro k r hr
  by_cases e:k=h.length
  ·subst e
   rw [r1] at hr
   obtain ⟨o',bg,hrel⟩:=H'.obj i r hr
   rw [az] at bg
   cases bg
   exact ⟨o,new,kn.rel ho hrel⟩
  ·rw [r2 k e] at hr
   obtain ⟨q1,q2,q3⟩:=r3 k r hr
   obtain ⟨o',bg,hrel⟩:=H.obj k r hr
   obtain ⟨o2,kc,om⟩:=H'.obj k r q1
   rw [q3,bg] at kc
   cases kc
   exact ⟨o',by rw [old k q2];exact bg,(hrel.down T.ext om).mono hle rfl⟩
 ·intro a b r s ha hb h9 hm hl
  by_cases ea:a=h.length <;> by_cases eb:b=h.length
  ·omega
  ·subst ea
   rw [r1] at ha
   rw [r2 b eb] at hb
   obtain ⟨q1,q2,q3⟩:=r3 b s hb
   have:=H'.inj i b r s ha q1 h9 (vd.1 hm) ((lC b q2).1 hl)
   omega
  ·subst eb
   rw [r1] at hb
   rw [r2 a ea] at ha
   obtain ⟨q1,q2,q3⟩:=r3 a r ha
   have:=H'.inj a i r s q1 hb h9 ((mt a q2).1 hm) (u9.1 hl)
   omega
  ·rw [r2 a ea] at ha
   rw [r2 b eb] at hb
   obtain ⟨q1,q2,_⟩:=r3 a r ha
   obtain ⟨p1,p2,_⟩:=r3 b s hb
   exact H'.inj a b r s q1 p1 h9 ((mt a q2).1 hm) ((lC b p2).1 hl)
 ·intro k r hr
  by_cases e:k=h.length
  ·subst e
   rw [r1] at hr
   exact H'.aL i r hr
  ·rw [r2 k e] at hr
   exact H.aL k r hr
 ·exact {
   ext:=hle
   len:=by simp
   cV:=λk r hr=>H.lt hr
   kinds:=λk hk hm=>by unfold aI at hm⊢;rw [old k hk] at hm;exact hm
   fresh:=by
    intro k r hr hn
    by_cases e:k=h.length
    ·subst e
     rw [r1] at hr
     have dB:ρ i=none:=by
      cases hq:ρ i with
      | none=>rfl
      | some q=>exact absurd (H.lt hq) (by omega)
     exact ⟨le_refl _,(T.fresh i r hr dB).2⟩
    ·rw [r2 k e] at hr
     rw [hr] at hn
     cases hn
   cu:=T.cu
   ck:=T.ck
   os:=T.os
   tape:=T.tape
   output:=T.output }
theorem ta {K:Value->ad->Prop} {v:Value} (hV:Ren λ_=>v) (hc:ay P F args h λu h'=>u=v/\EX h h') (hk:K v h):ay P F args h K:=by
 rw [iY] at hc⊢
 obtain ⟨u,h',hc,rfl,hex⟩:=hc
 refine ⟨_,_,?_,hk⟩
 intro ρ args' w hv H
 refine (hc ρ args' w hv H).mono ?_
 rintro e w' ⟨v',ae,rfl,gl,H',T⟩
 have r3:∀k r,ρ k=some r->ae k=some r/\k<h.length/\h'[k]?=h[k]?:=λk r hr=>⟨T.ext k r hr,H.lt hr,hex.2 k (H.lt hr)⟩
 have mt:∀k,k<h.length->(aI h k↔aI h' k):=λk hk=>by unfold aI;rw [hex.2 k hk]
 have lC:∀k,k<h.length->(bF h k↔bF h' k):=λk hk=>by unfold bF;rw [hex.2 k hk]
 have gj:ρ h.length=none:=H.none
 have qK:∃i,ρ i=ae h'.length:=⟨h.length,by rw [gj,H'.none]⟩
 refine ⟨v',ρ,rfl,hV ae ρ h'.length h.length v' (by rw [gj,H'.none]) gl,⟨?_,?_,H.aL⟩,?_⟩
 ·intro k r hr
  obtain ⟨q1,q2,q3⟩:=r3 k r hr
  obtain ⟨o',bg,hrel⟩:=H.obj k r hr
  obtain ⟨o2,kc,om⟩:=H'.obj k r q1
  rw [q3,bg] at kc
  cases kc
  exact ⟨o',bg,hrel.down T.ext om⟩
 ·intro a b r s ha hb h9 hm hl
  obtain ⟨q1,q2,_⟩:=r3 a r ha
  obtain ⟨p1,p2,_⟩:=r3 b s hb
  exact H'.inj a b r s q1 p1 h9 ((mt a q2).1 hm) ((lC b p2).1 hl)
 ·exact {
   ext:=.refl _
   len:=le_refl _
   cV:=λk r hr=>H.lt hr
   kinds:=λ_ _ h=>h
   fresh:=λk r h1 h2=>by rw [h1] at h2;cases h2
   cu:=T.cu
   ck:=T.ck
   os:=T.os
   tape:=T.tape
   output:=T.output }
theorem Fx {K:Value->ad->Prop} {v:Value} {h':ad} (hV:Ren λ_=>v) (hc:l7 P F args [] v h') (ha:args.all bo=true) (hk:K v h):ay P F args h K:=by
 rw [iY]
 refine ⟨v,h,?_,hk⟩
 intro ρ args' w hv H
 have Il:∀{xs ys:List Value},xs.all bo=true->aC ρ xs ys->aC (λ_=>none) xs ys:=by
  intro xs ys hs hr
  induction hr with
  | nil=>exact .nil
  | cons a _ ih=>simp only [List.all_cons,and_eq_true] at hs;exact .cons (bo.rel hs.1 a) (ih hs.2)
 have H0:ar P (λ_=>none) [] w:=⟨λi r hi=>(by cases hi),λi j r s hi=>(by cases hi),λi r hi=>(by cases hi)⟩
 refine (hc _ args' w (Il ha hv) H0).mono ?_
 rintro e w' ⟨v',ae,rfl,gl,H',T⟩
 have jC:∀b,b<w.heap.size->w'.heap[b]?=w.heap[b]?:=λb hb=>T.ck b hb λj s hj=>(by cases hj)
 refine ⟨v',ρ,rfl,hV ae ρ h'.length h.length v' (by rw [H.none,H'.none]) gl,⟨?_,H.inj,H.aL⟩,?_⟩
 ·intro k r hr
  obtain ⟨o,ho,hrel⟩:=H.obj k r hr
  refine ⟨o,ho,?_⟩
  by_cases hd:o=.dead
  ·subst hd;trivial
  ·exact hrel.mono (.refl _) (jC _ (oM H hr ⟨o,ho,hd⟩))
 ·exact {
   ext:=.refl _
   len:=le_refl _
   cV:=λk r hr=>H.lt hr
   kinds:=λ_ _ h=>h
   fresh:=λk r h1 h2=>by rw [h1] at h2;cases h2
   cu:=T.cu
   ck:=λb hb _=>jC b hb
   os:=T.os
   tape:=T.tape
   output:=T.output }
end gc
end
section
open Go.ChangeShapes Go.WideShapes Go.ChangeAt Go.RowKit
def gS (h:ad):Prop:=∀i,¬aI h i
section
variable {P : Program} {W : World} {ρ : ai} {h : ad}
theorem ar.start (P:Program) (W:World):ar P (λ_=>Option.none) [] W:=⟨λi r hi=>(by cases hi),λi j r s hi=>(by cases hi),λi r hi=>(by cases hi)⟩
theorem gS.start:gS []:=λi hm=>by unfold aI at hm;simp at hm
theorem ar.xD (H:ar P ρ h W) (hr:gS h) {r:RI} (he:r.aL=P.cellsOf r.elem) {o:aA} (aH:o=.dead∨∃e xs,o=.ro e xs) (ho:eI (ρ.add h.length r) W r o):
  ar P (ρ.add h.length r) (h++[o]) W/\gS (h++[o])/\ρ.le (ρ.add h.length r):=by
 have eE:gS (h++[o]):=by
  intro i hm
  unfold aI at hm
  by_cases hi:i<h.length
  ·rw [getElem?_append_left hi] at hm
   exact hr i hm
  ·by_cases he:i=h.length
   ·subst he
    have e:(h++[o])[h.length]?=some o:=by simp
    rw [e] at hm
    rcases aH with rfl | ⟨_,_,rfl⟩ <;> rcases hm with ⟨_,_,h1⟩ | ⟨_,h1⟩ | ⟨_,_,_,h1⟩ | ⟨_,_,h1⟩ | ⟨_,_,_,h1⟩ | ⟨_,_,_,_,h1⟩ <;> cases h1
   ·rw [List.getElem?_eq_none (by simp;omega)] at hm
    rcases hm with ⟨_,_,h1⟩ | ⟨_,h1⟩ | ⟨_,_,_,h1⟩ | ⟨_,_,h1⟩ | ⟨_,_,_,h1⟩ | ⟨_,_,_,_,h1⟩ <;> cases h1
 refine ⟨⟨?_,λi j r s _ _ _ hm=>absurd hm (eE i),?_⟩,eE,ai.jD H.none⟩
 ·intro i s hi
  unfold ai.add at hi
  split at hi
  ·rename_i e
   subst e
   cases hi
   exact ⟨o,by simp,ho⟩
  ·obtain ⟨o',h1,h2⟩:=H.obj i s hi
   exact ⟨o',by rw [getElem?_append_left (H.lt hi)];exact h1,h2.mono (ai.jD H.none) rfl⟩
 ·intro i s hi
  unfold ai.add at hi
  split at hi
  ·cases hi;exact he
  ·exact H.aL i s hi
theorem bo.self {v:Value} (hs:bo v=true) (ρ:ai):af ρ v v:=by
 unfold bo at hs
 split at hs
 ·exact .bool _
 ·exact .int _ _
 ·exact .string _
 ·exact .nilFunc
 ·exact .nilIface
 ·exact .nilPtr
 ·exact .iR
 ·exact .gv
 ·cases hs
theorem bo.cell {v:Value} (hs:bo v=true):cL v=true:=by
 unfold bo at hs
 split at hs <;> first | rfl | cases hs
variable {H : Type} {enc : TypeId × Value -> H}
theorem addr_eq {a:Addr} (hs:a.spot=none) (n:Nat):a.add n=⟨a.block,a.off+n,none⟩:=by
 obtain ⟨b,o,s⟩:=a
 simp only at hs
 subst hs
 unfold Addr.add
 split
 ·rename_i h;subst h;rfl
 ·rfl
theorem Gf {t e:TypeId} (ht:P.underlying t=some (.slice e)) (lj:P.cellsOf e≠0)
  (flat:∀n cs y,DataW.trod enc P W 0 (λ_=>true) true n e cs=some y->cs.length=P.cellsOf e/\∀x∈cs,bo x=true)
  {fuel:Nat} {v:Value} {x:DataW H×List MemPlace} (hd:DataW.trod enc P W 0 (λ_=>true) true fuel t [v]=some x) (ak:∀(a:Addr) (len cap:Nat),v=.slice (some a) len cap->a.spot=none) (HR:ar P ρ h W) (eE:gS h):
  ∃(ae:ai) (g:ad) (v':Value) (n:Nat) (xs:List Value),ρ.le ae/\ar P ae (h++g) W/\gS (h++g)/\af ae v' v/\cL v'=true/\
   ((v'=.slice none 0 0/\n=0)∨∃i,v'=sl e i 0 n/\(n=0∨bd (h++g) i=some xs))/\xs.length=n*P.cellsOf e/\(∀y∈xs,bo y=true)/\
   ∀i,i<n->∃m y,DataW.trod enc P W 0 (λ_=>true) true m e ((xs.drop (i*P.cellsOf e)).take (P.cellsOf e))=some y:=by
 rcases DataW.trod_slice ht hd with ⟨h1,_⟩ | ⟨a,len,cap,Ms,rest,n,_,h1,_,hb,hl,hm,hlen,G7,hsp,_⟩
 ·obtain rfl:v=.slice none 0 0:=by simpa using h1
  exact ⟨ρ,[],.slice none 0 0,0,[],.refl _,by simpa using HR,by simpa using eE,.gv,rfl,.inl ⟨rfl,rfl⟩,by simp,by simp,λi hi=>by omega⟩
 ·obtain rfl:v=.slice (some a) len cap:=by simpa using h1
  have mH:a.spot=none:=ak a len cap rfl
  obtain ⟨hrl,hr⟩:=hsp rfl
  -- every Mr cells MP there
  have each:∀i,i<cap->∃cs y,W.cells? 0 (a.add (i*P.cellsOf e)) (P.cellsOf e)=some cs/\DataW.trod enc P W 0 (λ_=>true) true n e cs=some y:=by
   intro i hi
   have eT:∃y,(W.cells? 0 (a.add (i*P.cellsOf e)) (P.cellsOf e)).bind (DataW.trod enc P W 0 (λ_=>true) true n e)=some y:=by
    by_cases fG:i<len
    ·rw [G7 i fG,getElem?_eq_getElem (by omega)]
     exact ⟨_,rfl⟩
    ·have:=hr (i-len) (by omega)
     rw [show len+(i-len)=i by omega] at this
     rw [this,getElem?_eq_getElem (by omega)]
     exact ⟨_,rfl⟩
   obtain ⟨y,hy⟩:=eT
   rw [Option.bind_eq_some_iff] at hy
   obtain ⟨cs,h1,h2⟩:=hy
   exact ⟨cs,y,h1,h2⟩
  by_cases qG:cap=0
  ·subst qG
   obtain rfl:len=0:=by omega
   obtain ⟨H',uo,hle⟩:=HR.xD eE (r:=⟨a.block,a.off,e,P.cellsOf e,a.off⟩) rfl (.inl rfl) trivial
   refine ⟨_,[.dead],sl e h.length 0 0,0,[],hle,H',uo,?_,rfl,.inr ⟨_,rfl,.inl rfl⟩,by simp,by simp,λi hi=>by omega⟩
   obtain ⟨ab,ao,jQ⟩:=a
   simp only at mH
   subst mH
   exact af.slice (ρ:=ρ.add h.length ⟨ab,ao,e,P.cellsOf e,ao⟩) (i:=h.length) (o:=0) (n:=0) (o':=ao) (c':=0) (r:=⟨ab,ao,e,P.cellsOf e,ao⟩) (by simp [ai.add]) (.inl rfl) (le_refl _) (by unfold maxLen;omega) (by simp)
  ·have mA:0<P.cellsOf e:=by omega
   -- the block
   have GV:∃c tt fr,W.heap[a.block]?=some (.cells c tt fr):=by
    obtain ⟨cs,y,h1,h2⟩:=each 0 (by omega)
    obtain ⟨_,g2,g3⟩:=World.cells?_some h1
    have:=g3 0 mA
    rw [Nat.zero_mul,addr_eq mH 0,addr_eq rfl 0,getElem?_eq_getElem (by omega)] at this
    unfold World.cell? at this
    split at this
    ·rename_i c tt fr hh;exact ⟨c,tt,fr,hh⟩
    ·cases this
   obtain ⟨c,tt,fr,mz⟩:=GV
   have get:∀i cs,W.cells? 0 (a.add (i*P.cellsOf e)) (P.cellsOf e)=some cs->∀j,j<P.cellsOf e->c[a.off+(i*P.cellsOf e+j)]?=cs[j]?:=by
    intro i cs h1 j hj
    obtain ⟨_,g2,g3⟩:=World.cells?_some h1
    have:=g3 j hj
    rw [addr_eq mH,addr_eq rfl] at this
    simp only [World.cell?,mz] at this
    simpa [Nat.add_assoc] using this
   have here:∀j,j<cap*P.cellsOf e->∃y,c[a.off+j]?=some y/\bo y=true:=by
    intro j hj
    have hi:j / P.cellsOf e<cap:=(Nat.div_lt_iff_lt_mul mA).2 hj
    obtain ⟨cs,y,h1,h2⟩:=each _ hi
    obtain ⟨f1,f2⟩:=flat n cs y h2
    have Hv:j%P.cellsOf e<P.cellsOf e:=Nat.mod_lt _ mA
    have:=get _ cs h1 (j%P.cellsOf e) Hv
    rw [show j / P.cellsOf e*P.cellsOf e+j%P.cellsOf e=j by rw [Nat.mul_comm];exact Nat.div_add_mod j _] at this
    rw [this,getElem?_eq_getElem (by omega)]
    exact ⟨_,rfl,f2 _ (List.getElem_mem _)⟩
   let xs:=(List.range (len*P.cellsOf e)).map λj=>c.getD (a.off+j) Go.undef
   have qQ:xs.length=len*P.cellsOf e:=by simp [xs]
   have MI:len*P.cellsOf e<=cap*P.cellsOf e:=Nat.mul_le_mul_right _ hl
   have uy:∀j,j<len*P.cellsOf e->xs[j]?=c[a.off+j]?:=by
    intro j hj
    obtain ⟨y,h1,_⟩:=here j (by omega)
    simp [xs,hj,h1]
   have hxs:∀y∈xs,bo y=true:=by
    intro y hy
    obtain ⟨j,hj⟩:=List.getElem?_of_mem hy
    have hlt:j<len*P.cellsOf e:=by have:=(bw hj).1;omega
    obtain ⟨z,h1,h2⟩:=here j (by omega)
    rw [uy j hlt,h1] at hj
    cases hj
    exact h2
   have Ic:a.off+cap*P.cellsOf e<=c.size:=by
    have ML:0<cap*P.cellsOf e:=Nat.mul_pos (by omega) mA
    obtain ⟨y,h1,_⟩:=here (cap*P.cellsOf e-1) (by omega)
    have:=(Array.getElem?_eq_some_iff.1 h1).1
    omega
   obtain ⟨H',uo,hle⟩:=HR.xD eE (r:=⟨a.block,a.off,e,P.cellsOf e,c.size⟩) rfl (.inr ⟨e,xs,rfl⟩) ⟨rfl,c,tt,fr,mz,rfl,λj y hj=>by
    have hlt:j<len*P.cellsOf e:=by have:=(bw hj).1;omega
    rw [uy j hlt] at hj
    obtain ⟨z,h1,h2⟩:=here j (by omega)
    rw [h1] at hj
    cases hj
    exact ⟨bo.cell h2,_,h1,bo.self h2 _⟩⟩
   refine ⟨_,[.ro e xs],sl e h.length 0 len,len,xs,hle,H',uo,?_,rfl,.inr ⟨_,rfl,.inr (by simp [bd])⟩,qQ,hxs,?_⟩
   ·obtain ⟨ab,ao,jQ⟩:=a
    simp only at mH
    subst mH
    exact af.slice (ρ:=ρ.add h.length ⟨ab,ao,e,P.cellsOf e,c.size⟩) (i:=h.length) (o:=0) (n:=len) (o':=ao) (c':=cap) (r:=⟨ab,ao,e,P.cellsOf e,c.size⟩) (by simp [ai.add]) (.inl rfl) hl hm Ic
   ·intro i hi
    obtain ⟨cs,y,h1,h2⟩:=each i (by omega)
    refine ⟨n,y,?_⟩
    have bL:=(flat n cs y h2).1
    have zI:(i+1)*P.cellsOf e<=len*P.cellsOf e:=Nat.mul_le_mul_right _ hi
    rw [Nat.add_mul,Nat.one_mul] at zI
    have:(xs.drop (i*P.cellsOf e)).take (P.cellsOf e)=cs:=by
     apply List.ext_getElem?
     intro j
     rw [List.getElem?_take]
     by_cases hj:j<P.cellsOf e
     ·rw [if_pos hj,List.getElem?_drop,uy _ (by omega),get i cs h1 j hj]
     ·rw [if_neg hj,List.getElem?_eq_none (by omega)]
    rw [this]
    exact h2
theorem Ge {t e:TypeId} (ht:P.underlying t=some (.slice e)) (lj:P.cellsOf e≠0)
  (flat:∀n cs y,DataW.trod enc P W 0 (λ_=>true) true n e cs=some y->cs.length=P.cellsOf e/\∀x∈cs,bo x=true)
  {fuel b:Nat} {v:Value} {x:DataW H×List MemPlace} (hd:DataW.trod enc P W 0 (λ_=>true) true fuel t [v]=some x) (ak:Cell.okWide P W .any b t v) (HR:ar P ρ h W) (eE:gS h):
  ∃(ae:ai) (g:ad) (v':Value) (n:Nat) (xs:List Value),ρ.le ae/\ar P ae (h++g) W/\gS (h++g)/\af ae v' v/\cL v'=true/\
   ((v'=.slice none 0 0/\n=0)∨∃i,v'=sl e i 0 n/\(n=0∨bd (h++g) i=some xs))/\xs.length=n*P.cellsOf e/\(∀y∈xs,bo y=true)/\
   ∀i,i<n->∃m y,DataW.trod enc P W 0 (λ_=>true) true m e ((xs.drop (i*P.cellsOf e)).take (P.cellsOf e))=some y:=by
 refine Gf ht lj flat hd (λa len cap hv=>?_) HR eE
 subst hv
 simp only [Cell.okWide,ht,Cell.ok] at ak
 exact ak.2.2.2.1
theorem Gg {t:TypeId} (ht:P.underlying t=some .string) {b:Nat} {v:Value} {d:DataW H} {ps:List MemPlace} (ak:Value.okWide P W .any b t v) (hd:DataW.Trod enc P W 0 (λ_=>true) true t v d ps):
  ∃s:List UInt8,v=S s:=by
 obtain ⟨s,rfl,_⟩:=Go.ChangeMaps.open_string ht ak hd
 exact ⟨bytes s,(Ec s).symm⟩
theorem CA (hl:laidOutB P=true) {W':World} (hb:Below W.heap.size W W'):∀{ts:List TypeId} {vs:List Value} {ds:List (DataW H)} {p:List MemPlace},(∀t∈ts,P.readableRec t=true/\t<P.types.size)->
  DataW.TrodAll enc P W 0 (λ_=>true) true ts vs ds p->(∀x∈p,x.block<W.heap.size)->DataW.TrodAll enc P W' 0 (λb=>decide (b<W.heap.size)) true ts vs ds p
 | [],vs,ds,p,_,h,_=>by
  obtain ⟨rfl,rfl,rfl⟩:=trodAll_nil h
  exact trodAll_mk0
 | t::ts,vs,ds,p,hr,h,hlt=>by
  obtain ⟨v,dm,d,Mp,a,b,rfl,rfl,rfl,h1,h2⟩:=trodAll_cons h
  exact trodAll_cons_mk (Below.trod hl (hr t (by simp)).1 (hr t (by simp)).2 h1 hb λx hx=>hlt x (by simp [hx]))
   (CA hl hb (λt ht=>hr t (by simp [ht])) h2 λx hx=>hlt x (by simp [hx]))
theorem JF (hl:laidOutB P=true) {f:Func} {s:ChangeSpec} {t4:TypeId} {W':World} {args:Array Value} {ds gs:List (DataW H)} {before:List MemPlace} (hW:DataW.Whole enc P f.params.toList s.vars false W args.toList ds gs before)
  (hv:s.vars=[]) (Ii:P.underlying t4=some .bool) (hr:f.resultTypes=#[t4]) (tW:∀tN,tN=[]->s.fn H (ds++tN)={ results:=[.lit (.bool true)],args:=ds })
  (HV:∀t∈f.params.toList,P.readableRec t=true/\t<P.types.size) (hb:Below W.heap.size W W'):s.post enc P f false true false false W args (.bool true) W':=by
 have qF:=hW
 obtain ⟨p,q,hA,hV,rfl,_,_⟩:=hW
 rw [hv] at hV
 obtain ⟨rfl,rfl⟩:=trodVars_none hV
 have hlt:∀x∈p,x.block<W.heap.size:=λx hx=>qF.lt x (by simp [hx])
 have e:=tW [] rfl
 refine ⟨ds,[],p++[],[],p,[],qF,?_,?_,?_,hb.frame _,λh=>by cases h⟩
 ·rw [e,hr]
  exact trodAll_mk1 (shut_bool Ii true)
 ·rw [e]
  exact CA hl hb HV hA hlt
 ·rw [e,hv]
  rfl
end
end
section
def lt (a:Nat):UInt8:=UInt8.ofNat (97+a)
def letters (n:Nat) (s:List UInt8):Prop:=∀c∈s,∃a,a<n/\c=lt a
theorem km {a:Nat} (h:a<100):(lt a).toNat=97+a:=by
 simp [lt,UInt8.toNat_ofNat']
 omega
end
end Go.Sim
