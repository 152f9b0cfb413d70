/-
  Part 2 of the texts behind a statement of this seat: Sim15, Sim17, Sim18, Sim18b, Sim18c, Sim18d, Sim18e, Sim18f, Sim19, Sim19b, Sim16, Sim20, Sim21, Sim23, Sim24, Sim25, Sim26.
-/
import Derived.ProofKit
import Derived.OpenShut
import Derived.Test.YtncaiogfjjepcaaGreatDoorTc1
open Array (getElem?_toList replicate)
open Bool (and_eq_true or_eq_true)
open Classical (byContradiction choose_spec)
open List (all_eq_true cons_append getD getElem?_append_left getElem?_eq_getElem getElem?_eq_none getElem?_set_ne getElem?_set_self length_cons map_cons mem_cons mem_cons_of_mem mem_filter mem_map mem_range nodup_cons range')
open Nat (add_zero le_of_not_lt le_refl zero_add)
open Option (bind_some getD_some map_eq_some_iff map_some)
namespace Go.Sim
section
section
variable {P : Program} {N : Nat}
def eJ (P:Program) (N:Nat) (ops:Array Oper) (gi:List Nat) (f:Nat->Value) (h:ae) (f':Nat->Value) (h':ae):Prop:=
 ∀S B ρ a w,cP P N B ρ f h a w->∀Q:Exit->Act->World->Prop,(∀aq a' w',cP P N B aq f' h' a' w'->Tr ρ h w aq h' w'->Q .normal a' w')->wpOpsIn (FR S) 0 P ops Q gi a w
theorem eJ.nil {ops:Array Oper} {f:Nat->Value} {h:ae}:eJ P N ops [] f h f h:=λ_ _ ρ a w R _ hq=>hq ρ a w R (Tr.refl R.heap)
theorem cP.nR {B:Nat} {ρ aq:aD} {f:Nat->Value} {h h':ae} {a:Act} {w w':World} (R:cP P N B ρ f h a w) {d:Option Nat} (hd:d.all (·<N)=true) {v v':Value} (T:Tr ρ h w aq h' w') (hv:au aq v v') (H:aL P aq h' w'):
  cP P N B aq (ck f d v) h' (a.put d v') w':=by
 cases d with
 | none=>exact R.mono T H
 | some d=>exact R.put (by simpa using hd) T hv H
theorem eJ.step {ops:Array Oper} {i:Nat} {gi:List Nat} {o:Oper} {f f':Nat->Value} {h h₁ h':ae} {v:Value} (ho:ops[i]?=some o) (hd:o.dst.all (·<N)=true)
  (hw:∀B ρ a w,cP P N B ρ f h a w->Region.wanted o (yielded ops a.tmps)=true) (hs:yS P N o f h v h₁) (hr:eJ P N ops gi (ck f o.dst v) h₁ f' h'):eJ P N ops (i::gi) f h f' h':=by
 intro S B ρ a w R Q hq
 simp only [wpOpsIn,ho]
 rw [if_pos (hw B ρ a w R)]
 refine hs S B ρ a w R _ _ ?_
 intro aq v' w' hv H T
 exact hr S B aq _ w' (R.nR hd T hv H) Q λnh l7 gq jV T'=>hq nh l7 gq jV (T.trans T')
theorem eJ.pass {ops:Array Oper} {i:Nat} {gi:List Nat} {o:Oper} {f f':Nat->Value} {h h':ae} (ho:ops[i]?=some o) (hd:o.dst.all (·<N)=true)
  (hw:∀B ρ a w,cP P N B ρ f h a w->Region.wanted o (yielded ops a.tmps)=false) (hr:eJ P N ops gi (ck f o.dst undef) h f' h'):eJ P N ops (i::gi) f h f' h':=by
 intro S B ρ a w R Q hq
 simp only [wpOpsIn,ho]
 rw [if_neg (by rw [hw B ρ a w R];simp)]
 exact ⟨λ_ _=>trivial,hr S B ρ _ w (R.nR hd (Tr.refl R.heap) (au.undef _) R.heap) Q hq⟩
def mh (g:Option (Nat×Bool)) (f:Nat->Value):Prop:=
 match g with
 | none=>True
 | some (s,_)=>oU (f s)=false
theorem ai8 {ρ:aD} {v v':Value} (h:au ρ v v') (hb:oU v=false) (b:Bool):lp v' b=lp v b:=by
 cases h <;> first | rfl | simp [oU] at hb
theorem Au {v:Value} {b:Bool} {A B:Prop} (h:gO v b A B):oU v=false/\((lp v b=true/\A)∨(lp v b=false/\B)):=by
 unfold gO at h
 split at h
 ·rename_i c
  refine ⟨rfl,?_⟩
  split at h
  ·rename_i hc;exact .inl ⟨hc,h⟩
  ·rename_i hc;exact .inr ⟨by simpa [lp] using hc,h⟩
 ·exact h.elim
 ·rename_i x h1 h2
  have e1:oU v=false:=by
   cases v <;> first | rfl | exact absurd rfl (h2 _ _ _)
  have e2:lp v b=false:=by
   cases v <;> first | rfl | exact absurd rfl (h1 _)
  exact ⟨e1,.inr ⟨e2,h⟩⟩
theorem xn {ops:Array Oper} {o:Oper} {g:Option (Nat×Bool)} (hg:zV N ops o.guard=some g) {B:Nat} {ρ:aD} {f:Nat->Value} {h:ae} {a:Act} {w:World} (R:cP P N B ρ f h a w) (hb:mh g f):
  Region.wanted o (yielded ops a.tmps)=fq g f:=by
 unfold zV at hg
 unfold Region.wanted
 cases gR:o.guard with
 | none=>rw [gR] at hg;simp at hg;subst hg;rfl
 | some jb=>
  obtain ⟨j,b⟩:=jb
  rw [gR] at hg
  simp only at hg⊢
  split at hg
  ·rename_i s hs
   split at hg
   ·rename_i ar
    simp at hg;subst hg
    simp only [fq]
    have hr:=R.tmp s
    have jK:s<a.tmps.size:=by rw [R.size];exact ar
    have bA:a.tmps[s]?=some (a.tmps.getD s Go.undef):=by simp [Array.getD,jK]
    rw [<-ai8 hr hb b]
    unfold yielded
    rw [hs]
    simp only [bind_some,bA]
    generalize a.tmps.getD s Go.undef=u
    cases u <;> simp [lp]
   ·cases hg
  ·cases hg
def m9 (f' f:Nat->Value):Prop:=∀t,f' t=f t∨f' t=Nc
theorem cP.weaken {B:Nat} {ρ:aD} {f f':Nat->Value} {h:ae} {a:Act} {w:World} (R:cP P N B ρ f h a w) (hw:m9 f' f):cP P N B ρ f' h a w:=
 ⟨R.size,R.defers,λt=>(hw t).elim (λe=>by rw [e];exact R.tmp t) (λe=>by rw [e];exact .any _),R.heap⟩
theorem wL (f:Nat->Value):∀ls:List Nat,m9 (gI ls (ls.map f)) f
 | [],t=>.inr rfl
 | l::ls,t=>by
  simp only [map_cons,alc]
  by_cases h:t=l
  ·subst h;simp
  ·rw [if_neg h];exact wL f ls t
theorem eJ.weaken {ops:Array Oper} {gi:List Nat} {f bR f':Nat->Value} {h h':ae} (hw:m9 bR f) (hr:eJ P N ops gi bR h f' h'):eJ P N ops gi f h f' h':=
 λS B ρ a w R=>hr S B ρ a w (R.weaken hw)
theorem eB.weaken {b:Bool} {c:Code} {f bR f':Nat->Value} {h h':ae} {e:Exit} (hw:m9 bR f) (hr:eB P N b c bR h e f' h'):eB P N b c f h e f' h':=
 λS hS B ρ a w R=>hr S hS B ρ a w (R.weaken hw)
theorem nY {S:Option Nat} {ops:Array Oper} {Q:Exit->Act->World->Prop}:∀{i j:List Nat} {a:Act} {w:World},wpOpsIn (FR S) 0 P ops (λe a w=>match e with | .normal=>wpOpsIn (FR S) 0 P ops Q j a w | e=>Q e a w) i a w->wpOpsIn (FR S) 0 P ops Q (i++j) a w
 | [],j,a,w,h=>h
 | i::is,j,a,w,h=>by
  simp only [cons_append,wpOpsIn] at h⊢
  cases ho:ops[i]? with
  | none=>rw [ho] at h;exact nY h
  | some o=>
   rw [ho] at h
   simp only at h⊢
   split at h
   ·rename_i hw
    rw [if_pos hw]
    obtain ⟨h0,h⟩:=h
    refine ⟨h0,?_⟩
    generalize (o.semAt (FR S).round a.eval).run P w=r at h⊢
    cases r with
    | ok x w'=>
     cases x <;> simp only [Oper.uponIn] at h⊢
     ·exact nY h
     ·exact nY h
     ·refine ⟨h.1,h.2.mono ?_⟩
      rintro e gq hR
      cases e with
      | returned v=>exact nY hR
      | panicked chain=>exact hR
      | outgrown=>exact hR
     ·refine ⟨h.1,h.2.mono ?_⟩
      rintro e gq hR
      cases e with
      | returned v=>exact nY hR
      | panicked chain=>exact hR
      | outgrown=>exact hR
     ·exact nY h
     ·refine ⟨h.1,h.2.mono ?_⟩
      rintro v gq hR
      exact nY hR
    | halt x w'=>
     cases x <;> simp only [Oper.uponIn] at h⊢
     exact h
   ·rename_i hw
    rw [if_neg hw]
    exact ⟨h.1,nY h.2⟩
theorem eJ.append {ops:Array Oper} {i j:List Nat} {f bR f':Nat->Value} {h h₁ h':ae} (a:eJ P N ops i f h bR h₁) (b:eJ P N ops j bR h₁ f' h'):eJ P N ops (i++j) f h f' h':=by
 intro S B ρ ac w R Q hq
 refine nY (a S B ρ ac w R _ ?_)
 intro aq a' w' R' T
 exact b S B aq a' w' R' Q λnh l7 gq jV T'=>hq nh l7 gq jV (T.trans T')
theorem vf {ops:Array Oper} {o:Oper} {x:ft} (h:qK P N ops o=some x):
  o.op.operands.all fP=true/\o.dst.all (·<N)=true/\oq P o.op=some x.op/\zV N ops o.guard=some x.guard/\x.dst=o.dst:=by
 unfold qK at h
 split at h
 ·rename_i hc
  simp only [and_eq_true] at hc
  split at h
  ·rename_i op g h1 h2
   simp at h;subst h
   exact ⟨hc.1,hc.2,h1,h2,rfl⟩
  ·cases h
 ·cases h
theorem om {ops:Array Oper} {o:Oper} {os:List Oper} {l:List ft} (h:iq P N ops (o::os)=some l):∃x xs,qK P N ops o=some x/\iq P N ops os=some xs/\l=x::xs:=by
 simp only [iq] at h
 split at h
 ·rename_i x xs h1 h2
  simp at h
  exact ⟨x,xs,h1,h2,h.symm⟩
 ·cases h
theorem A3 {ops:Array Oper}:∀{os:List Oper} {l:List ft} {i:Nat} {K:(Nat->Value)->ae->Prop} {f:Nat->Value} {h:ae},(∀(k:Nat) (o:Oper),os[k]?=some o->ops[i+k]?=some o)->iq P N ops os=some l->mQ P l K f h->
  ∃f' h',eJ P N ops (range' i os.length) f h f' h'/\K f' h'
 | [],l,i,K,f,h,_,hc,hi=>by
  simp [iq] at hc
  subst hc
  exact ⟨f,h,eJ.nil,hi⟩
 | o::os,l,i,K,f,h,kX,hc,hi=>by
  obtain ⟨x,xs,h1,h2,rfl⟩:=om hc
  obtain ⟨q1,q2,q3,q4,q5⟩:=vf h1
  have ho:ops[i]?=some o:=kX 0 o rfl
  have AN:∀(k:Nat) (o':Oper),os[k]?=some o'->ops[i+1+k]?=some o':=by
   intro k o' hk
   have:=kX (k+1) o' (by simpa using hk)
   rw [show i+(k+1)=i+1+k by omega] at this
   exact this
  have go:∀(_:mh x.guard f) (_:fq x.guard f=true),bY P x.op f h (λv h'=>mQ P xs K (ck f x.dst v) h')->
    ∃f' h',eJ P N ops (range' i (o::os).length) f h f' h'/\K f' h':=by
   intro hb hw hs
   obtain ⟨v,h',dI,hk⟩:=rZ (N:=N) q3 q1 hs
   obtain ⟨vj,aJ,r1,r2⟩:=A3 AN h2 hk
   refine ⟨vj,aJ,?_,r2⟩
   rw [length_cons,List.range'_succ]
   rw [q5] at r1
   exact eJ.step ho q2 (λB ρ a w R=>by rw [xn q4 R hb,hw]) dI r1
  have skip:∀(_:mh x.guard f) (_:fq x.guard f=false),mQ P xs K (ck f x.dst undef) h->
    ∃f' h',eJ P N ops (range' i (o::os).length) f h f' h'/\K f' h':=by
   intro hb hw hs
   obtain ⟨vj,aJ,r1,r2⟩:=A3 AN h2 hs
   refine ⟨vj,aJ,?_,r2⟩
   rw [length_cons,List.range'_succ]
   rw [q5] at r1
   exact eJ.pass ho q2 (λB ρ a w R=>by rw [xn q4 R hb,hw]) r1
  simp only [mQ] at hi
  split at hi
  ·rename_i gR
   exact go (by rw [gR];trivial) (by rw [gR];rfl) hi
  ·rename_i s b gR
   obtain ⟨e1,e2⟩:=Au hi
   rcases e2 with ⟨e2,e3⟩ | ⟨e2,e3⟩
   ·exact go (by rw [gR];exact e1) (by rw [gR];exact e2) e3
   ·exact skip (by rw [gR];exact e1) (by rw [gR];exact e2) e3
def kQ (g:Option (Nat×Bool)) (l:List fC):List ft:=l.map λo=>⟨o.dst,o.op,g⟩
def jG:List (Option (Nat×Bool)×List fC)->List ft
 | []=>[]
 | (g,l)::gs=>kQ g l++jG gs
theorem An:∀os:List ft,jG (nE os)=os
 | []=>rfl
 | o::os=>by
  have ih:=An os
  simp only [nE]
  cases hg:nE os with
  | nil=>
   rw [hg] at ih
   simp only [jG] at ih
   subst ih
   simp [jG,kQ]
  | cons a gs=>
   obtain ⟨g,l⟩:=a
   rw [hg] at ih
   simp only
   split
   ·rename_i he
    simp only [jG,kQ,map_cons,cons_append] at ih⊢
    rw [ih,<-he]
   ·simp only [jG,kQ,map_cons,List.map_nil,cons_append,List.nil_append] at ih⊢
    rw [ih]
theorem FP {v:Value} {b:Bool} {A B:Prop} (hb:oU v=false) (hA:lp v b=true->A) (hB:lp v b=false->B):gO v b A B:=by
 unfold gO
 split
 ·split
  ·rename_i c hc;exact hA hc
  ·rename_i c hc;exact hB (by simpa [lp] using hc)
 ·simp [oU] at hb
 ·rename_i x h1 h2
  refine hB ?_
  cases v <;> first | rfl | exact absurd rfl (h1 _)
theorem Un {g:Option (Nat×Bool)} {K:(Nat->Value)->ae->Prop}:∀{l:List fC} {f:Nat->Value} {h:ae},(∀o∈l,leaves g o.dst=true)->mU P g l K f h->mQ P (kQ g l) K f h:=by
 intro l f h hl hk
 cases g with
 | none=>
  simp only [mU] at hk
  clear hl
  induction l generalizing f h with
  | nil=>exact hk
  | cons o l ih=>
   simp only [pI] at hk
   simp only [kQ,map_cons,mQ]
   have:bY P o.op f h (λv h'=>mQ P (kQ none l) K (ck f o.dst v) h'):=by
    have mono:∀{io:eI} {K K':Value->ae->Prop},(∀v h,K v h->K' v h)->bY P io f h K->bY P io f h K':=by
     intro io K K' hm hs
     cases io with
     | p po=>simp only [bY,dK] at hs⊢;split at hs <;> first | exact hm _ _ hs | exact hs.elim
     | l lo=>simp only [bY,dK] at hs⊢;split at hs <;> first | exact hm _ _ hs | exact hs.elim
     | e eo=>simp only [bY,jc] at hs⊢;split at hs <;> first | exact hm _ _ hs | exact hs.elim
     | call g args=>exact hs.mono hm
     | hK x args=>simp only [bY,nv] at hs⊢;split at hs <;> first | exact ⟨hs.1,hs.2.mono hm⟩ | exact hs.elim
    exact mono (λv h' bO=>ih bO) hk
   exact this
 | some sb=>
  obtain ⟨s,b⟩:=sb
  simp only [mU] at hk
  obtain ⟨e1,e2⟩:=Au hk
  clear hk
  induction l generalizing f h with
  | nil=>
   rcases e2 with ⟨_,e⟩ | ⟨_,e⟩ <;> exact e
  | cons o l ih=>
   have hd:o.dst≠some s:=by simpa [leaves] using hl o (by simp)
   have hs:∀v,ck f o.dst v s=f s:=by
    intro v
    cases ho:o.dst with
    | none=>rfl
    | some d=>
     have:s≠d:=by rintro rfl;exact hd ho
     simp [ck,m7,this]
   simp only [kQ,map_cons,mQ]
   refine FP e1 (λhb=>?_) (λhb=>?_)
   ·rcases e2 with ⟨_,e⟩ | ⟨e,_⟩
    ·simp only [pI] at e
     have mono:∀{io:eI} {K K':Value->ae->Prop},(∀v h,K v h->K' v h)->bY P io f h K->bY P io f h K':=by
      intro io K K' hm hs
      cases io with
      | p po=>simp only [bY,dK] at hs⊢;split at hs <;> first | exact hm _ _ hs | exact hs.elim
      | l lo=>simp only [bY,dK] at hs⊢;split at hs <;> first | exact hm _ _ hs | exact hs.elim
      | e eo=>simp only [bY,jc] at hs⊢;split at hs <;> first | exact hm _ _ hs | exact hs.elim
      | call g args=>exact hs.mono hm
      | hK x args=>simp only [bY,nv] at hs⊢;split at hs <;> first | exact ⟨hs.1,hs.2.mono hm⟩ | exact hs.elim
     refine mono (λv h' bO=>?_) e
     exact ih (λo' cr=>hl o' (by simp [cr])) (by rw [hs];exact e1) (.inl ⟨by rw [hs];exact hb,bO⟩)
    ·rw [hb] at e;cases e
   ·rcases e2 with ⟨e,_⟩ | ⟨_,e⟩
    ·rw [hb] at e;cases e
    ·exact ih (λo' cr=>hl o' (by simp [cr])) (by rw [hs];exact e1) (.inr ⟨by rw [hs];exact hb,e⟩)
theorem E5 {ops:Array Oper}:∀{os:List Oper} {m0 m1:List ft},iq P N ops os=some (m0++m1)->∃iz jd,os=iz++jd/\iq P N ops iz=some m0/\iq P N ops jd=some m1
 | os,[],m1,h=>⟨[],os,rfl,rfl,h⟩
 | [],x::m0,m1,h=>by simp [iq] at h
 | o::os,x::m0,m1,h=>by
  obtain ⟨y,ys,h1,h2,he⟩:=om h
  simp only [cons_append,List.cons.injEq] at he
  obtain ⟨rfl,rfl⟩:=he
  obtain ⟨iz,jd,rfl,e1,e2⟩:=E5 h2
  refine ⟨o::iz,jd,rfl,?_,e2⟩
  simp [iq,h1,e1]
theorem PV {ls:List Nat} {c:dc} {K:Exit->(Nat->Value)->ae->Prop} {f:Nat->Value} {h:ae} (hi:fx P (pB ls c) K f h):∃f',m9 f' f/\fx P c K f' h:=by
 cases ls with
 | nil=>exact ⟨f,λ_=>.inl rfl,hi⟩
 | cons l ls=>exact ⟨_,wL f (l::ls),hi⟩
theorem aoa {ops:Array Oper}:∀{gs:List (Option (Nat×Bool)×List fC)} {hs:Hints} {os:List Oper} {i:Nat} {K:Exit->(Nat->Value)->ae->Prop} {f:Nat->Value} {h:ae},
  (∀(k:Nat) (o:Oper),os[k]?=some o->ops[i+k]?=some o)->iq P N ops os=some (jG gs)->(∀g l,(g,l)∈gs->∀o∈l,leaves g o.dst=true)->fx P (lz gs hs).1 K f h->
  ∃f' h',eJ P N ops (range' i os.length) f h f' h'/\K .normal f' h':=by
 intro gs
 induction gs with
 | nil=>
  intro hs os i K f h kX hc _ hi
  cases os with
  | nil=>exact ⟨f,h,eJ.nil,hi⟩
  | cons o os=>
   obtain ⟨x,xs,_,_,he⟩:=om hc
   simp [jG] at he
 | cons a gs ih=>
  obtain ⟨g,l⟩:=a
  intro hs os i K f h kX hc hl hi
  simp only [jG] at hc
  obtain ⟨iz,jd,rfl,c0,c1⟩:=E5 hc
  have AO:∀(k:Nat) (o:Oper),iz[k]?=some o->ops[i+k]?=some o:=by
   intro k o hk
   refine kX k o ?_
   rw [getElem?_append_left (ba hk).1]
   exact hk
  have Gp:∀(k:Nat) (o:Oper),jd[k]?=some o->ops[i+iz.length+k]?=some o:=by
   intro k o hk
   rw [Nat.add_assoc]
   refine kX _ o ?_
   rw [List.getElem?_append_right (by omega)]
   simpa using hk
  have first:∀{K:(Nat->Value)->ae->Prop},mU P g l K f h->∃f' h',eJ P N ops (range' i iz.length) f h f' h'/\K f' h':=by
   intro K hk
   exact A3 AO c0 (Un (λo ho=>hl g l (by simp) o ho) hk)
  have both:∀{bR:Nat->Value} {h₁:ae} {f':Nat->Value} {h':ae},eJ P N ops (range' i iz.length) f h bR h₁->eJ P N ops (range' (i+iz.length) jd.length) bR h₁ f' h'->eJ P N ops (range' i (iz++jd).length) f h f' h':=by
   intro bR h₁ f' h' a b
   rw [List.length_append,<-List.range'_append_1]
   exact a.append b
  have rest:∀{hs:Hints} {bR:Nat->Value} {h₁:ae},fx P (lz gs hs).1 K bR h₁->∃f' h',eJ P N ops (range' (i+iz.length) jd.length) bR h₁ f' h'/\K .normal f' h':=
   λhk=>ih Gp c1 (λg' l' hm=>hl g' l' (by simp [hm])) hk
  cases gs with
  | nil=>
   have vT:fx P (.ops g l) K f h:=by
    cases hs <;> exact hi
   obtain ⟨f',h',r1,r2⟩:=first vT
   have h1:jd=[]:=by
    cases jd with
    | nil=>rfl
    | cons o os=>obtain ⟨x,xs,_,_,he⟩:=om c1;simp [jG] at he
   subst h1
   exact ⟨f',h',by simpa using r1,r2⟩
  | cons b gs=>
   cases hs with
   | nil=>
    obtain ⟨bR,h₁,r1,r2⟩:=first (K:=λf h=>fx P (lz (b::gs) []).1 K f h) hi
    obtain ⟨f',h',s1,s2⟩:=rest r2
    exact ⟨f',h',both r1 s1,s2⟩
   | cons h0 hs=>
    obtain ⟨bR,h₁,r1,r2⟩:=first (K:=λf h=>fx P (pB h0 (lz (b::gs) hs).1) K f h) hi
    obtain ⟨FD,hw,r3⟩:=PV r2
    obtain ⟨f',h',s1,s2⟩:=rest r3
    exact ⟨f',h',both r1 (s1.weaken hw),s2⟩
def lr (S:Option Nat) (P:Program) (c:Code) (Q:Exit->Act->World->Prop) (a:Act) (w:World):Prop:=
 ∀(b:Frame) (k:List Item) (cs:List Frame),b.roundOf=S->
  ∃e a' w',Q e a' w'/\ArrivesIn (Machine.fenced P (FR S)) P (lone (b.atR a (.code c:: .inLoop c::k)) cs w) b k cs e a' w'
theorem FR.room (S:Option Nat) (n:Nat):(FR S).room n:=λ_ h=>by cases h
theorem lr.wp {S:Option Nat} {c:Code} {Q:Exit->Act->World->Prop} {a:Act} {w:World} (h:lr S P c Q a w):(Code.loop c).wpIn (FR S) 0 P Q a w:=by
 intro b k cs iJ hb hr
 obtain ⟨e,a',w',q,r⟩:=h b k cs iJ
 exact ⟨e,a',w',q,.of_steps (.one (fenced_calm hb hr rfl) stepR_loop) r⟩
theorem lr.round {S:Option Nat} {c:Code} {Q:Exit->Act->World->Prop} {a:Act} {w:World} (h:c.wpIn (FR S) 0 P (Exit.then (lr S P c Q) Q) a w):lr S P c Q a w:=by
 intro b k cs iJ
 have hb:(FR S).fn b.fn:=trivial
 have hr:(FR S).room (cs.length+1+0):=FR.room S _
 obtain ⟨e,qB,jQ,hq,pJ⟩:=h b (.inLoop c::k) cs iJ hb hr
 cases e with
 | normal=>
  obtain ⟨af1,ab0,Cw,ah2,agF⟩:=hq b k cs iJ
  exact ⟨af1,ab0,Cw,ah2,.of_steps (StepsIn.trans pJ (.one (fenced_calm hb hr rfl) stepR_inLoop)) agF⟩
 | exit id=>exact ⟨_,qB,jQ,hq,.pass (x:=.inLoop c) rfl (λ_ _=>.inl (by simp)) pJ⟩
 | goto l=>exact ⟨_,qB,jQ,hq,.pass (x:=.inLoop c) rfl (λ_ _=>.inl (by simp)) pJ⟩
 | ret=>exact ⟨_,qB,jQ,hq,.pass (x:=.inLoop c) rfl (λ_ _=>.inl (by simp)) pJ⟩
 | panic ch=>exact ⟨_,qB,jQ,hq,.pass (x:=.inLoop c) rfl (λ_ _=>.inl (by simp)) pJ⟩
 | outgrown=>exact ⟨_,qB,jQ,hq,.pass (x:=.inLoop c) rfl (λ_ _=>.inl (by simp)) pJ⟩
theorem Sh {l:List ft} (h:l.all (λo=>leaves o.guard o.dst)=true):∀g m,(g,m)∈nE l->∀o∈m,leaves g o.dst=true:=by
 intro g m hm o ho
 have iI:(⟨o.dst,o.op,g⟩:ft)∈jG (nE l):=by
  generalize nE l=gs at hm
  induction gs with
  | nil=>simp at hm
  | cons a gs ih=>
   obtain ⟨g',m'⟩:=a
   simp only [jG,List.mem_append]
   rcases mem_cons.1 hm with he | hm
   ·cases he
    left
    simp only [kQ,mem_map]
    exact ⟨o,ho,rfl⟩
   ·exact .inr (ih hm)
 rw [An] at iI
 rw [all_eq_true] at h
 exact h _ iI
def kL (P:Program) (N:Nat) (out:Bool) (c:Code) (f:Nat->Value) (h:ae) (e:Exit) (f':Nat->Value) (h':ae):Prop:=
 ∀S,(out=true->S=none)->∀B ρ a w,cP P N B ρ f h a w->lr S P c (qv P N B ρ h w e f' h') a w
theorem lr.mono {S:Option Nat} {c:Code} {Q Q':Exit->Act->World->Prop} {a:Act} {w:World} (h:lr S P c Q a w) (hq:∀e a w,Q e a w->Q' e a w):lr S P c Q' a w:=
 λb k cs iJ=>let ⟨e,a',w',q,r⟩:=h b k cs iJ;⟨e,a',w',hq _ _ _ q,r⟩
theorem qv.trans {B:Nat} {ρ jg:aD} {h h₁ h':ae} {w jQ:World} {e:Exit} {f':Nat->Value} (T:Tr ρ h w jg h₁ jQ):∀e' a' w',qv P N B jg h₁ jQ e f' h' e' a' w'->qv P N B ρ h w e f' h' e' a' w':=by
 rintro e' a' w' ⟨rfl,aq,R,T'⟩
 exact ⟨rfl,aq,R,T.trans T'⟩
variable {out : Bool}
theorem kL.next {c:Code} {f bR f':Nat->Value} {h h₁ h':ae} {e:Exit} (a:eB P N out c f h .normal bR h₁) (b:kL P N out c bR h₁ e f' h'):kL P N out c f h e f' h':=by
 intro S hS B ρ ac w R
 refine lr.round (wpIn_mono (a S hS B ρ ac w R) ?_)
 rintro e' a' w' ⟨rfl,aq,R',T⟩
 exact (b S hS B aq a' w' R').mono (qv.trans T)
theorem kL.leave {c:Code} {f f':Nat->Value} {h h':ae} {e:Exit} (he:e≠ .normal) (a:eB P N out c f h e f' h'):kL P N out c f h e f' h':=by
 intro S hS B ρ ac w R
 refine lr.round (wpIn_mono (a S hS B ρ ac w R) ?_)
 rintro e' a' w' ⟨rfl,aq,R',T⟩
 cases e' <;> first | exact absurd rfl he | exact ⟨rfl,aq,R',T⟩
theorem kL.run {c:Code} {f f':Nat->Value} {h h':ae} {e:Exit} (a:kL P N out c f h e f' h'):eB P N out (.loop c) f h e f' h':=λS hS B ρ ac w R=>(a S hS B ρ ac w R).wp
theorem eB.seq {x y:Code} {f bR f':Nat->Value} {h h₁ h':ae} {e:Exit} (a:eB P N out x f h .normal bR h₁) (b:eB P N out y bR h₁ e f' h'):eB P N out (.seq x y) f h e f' h':=by
 intro S hS B ρ ac w R
 refine wpIn_seq (wpIn_mono (a S hS B ρ ac w R) ?_)
 rintro e' a' w' ⟨rfl,aq,R',T⟩
 exact wpIn_mono (b S hS B aq a' w' R') (qv.trans T)
theorem eB.apc {x y:Code} {f f':Nat->Value} {h h':ae} {e:Exit} (he:e≠ .normal) (a:eB P N out x f h e f' h'):eB P N out (.seq x y) f h e f' h':=by
 intro S hS B ρ ac w R
 refine wpIn_seq (wpIn_mono (a S hS B ρ ac w R) ?_)
 rintro e' a' w' ⟨rfl,aq,R',T⟩
 cases e' <;> first | exact absurd rfl he | exact ⟨rfl,aq,R',T⟩
theorem eB.block {id:Nat} {c:Code} {f f':Nat->Value} {h h':ae} {e:Exit} (a:eB P N out c f h e f' h'):eB P N out (.block id c) f h (match e with | .exit i=>if i=id then .normal else .exit i | e=>e) f' h':=by
 intro S hS B ρ ac w R
 refine wpIn_block (wpIn_mono (a S hS B ρ ac w R) ?_)
 rintro e' a' w' ⟨rfl,aq,R',T⟩
 cases e' with
 | exit i=>
  simp only [Exit.inBlock]
  split
  ·exact ⟨rfl,aq,R',T⟩
  ·exact ⟨rfl,aq,R',T⟩
 | _=>exact ⟨rfl,aq,R',T⟩
theorem eB.cond {c:Operand} {x y:Code} {t:Bool} {f f':Nat->Value} {h h':ae} {e:Exit} (hc:fP c=true) (ht:ev f c=.bool t) (a:eB P N out (if t then x else y) f h e f' h'):eB P N out (.cond c x y) f h e f' h':=by
 intro S hS B ρ ac w R
 have:=R.ev hc
 rw [ht] at this
 exact wpIn_cond this.qF (a S hS B ρ ac w R)
theorem eB.region {id:Nat} {ops:Array Oper} {f f':Nat->Value} {h h':ae} (a:eJ P N ops (List.range ops.size) f h f' h'):eB P N out (.region id ops false) f h .normal f' h':=by
 intro S hS B ρ ac w R
 refine wpIn_region (a S B ρ ac w R _ ?_)
 intro aq a' w' R' T
 exact ⟨rfl,aq,R',T⟩
theorem kL.weaken {c:Code} {f bR f':Nat->Value} {h h':ae} {e:Exit} (hw:m9 bR f) (hr:kL P N out c bR h e f' h'):kL P N out c f h e f' h':=
 λS hS B ρ a w R=>hr S hS B ρ a w (R.weaken hw)
end
end
section
inductive qy (ops:Array Oper):List Nat->List Nat->Prop
 | nil {S:List Nat}:(∀i,i<ops.size->i∈S)->qy ops S []
 | cons {S:List Nat} {i:Nat} {o:Oper} {l:List Nat}:ops[i]?=some o->i∉S->(∀e∈dC o,e∈S)->qy ops (i::S) l->qy ops S (i::l)
theorem yX:∀{ops:List Oper} {i:Nat},qD ops i=true->∀(k:Nat) (o:Oper),ops[k]?=some o->∀e∈dC o,e<i+k
 | [],i,_,k,o,hk=>by simp at hk
 | x::ops,i,h,k,o,hk=>by
  simp only [qD,and_eq_true,all_eq_true,decide_eq_true_eq] at h
  cases k with
  | zero=>simp at hk;subst hk;exact h.1
  | succ k=>
   intro e he
   have:=yX h.2 k o (by simpa using hk) e he
   omega
def ready (ops:Array Oper) (listed:Array Bool) (i:Nat):Bool:=
 !listed.getD i true&&((ops[i]?).map (·.after.all λe=> !Region.binds .any e||listed.getD e.on false)).getD false
theorem agq (ops:Array Oper) (fuel t:Nat) (listed:Array Bool) (acc:List Nat):
  Region.linearise.go .any ops (fuel+1) t listed acc=
   match ((List.range ops.size).filter (ready ops listed))[t%((List.range ops.size).filter (ready ops listed)).length]? with
   | some i=>Region.linearise.go .any ops fuel (t / ((List.range ops.size).filter (ready ops listed)).length) (listed.setIfInBounds i true) (i::acc)
   | none=>acc.reverse:=by
 rw [Region.linearise.go]
 rfl
theorem Xd {ops:Array Oper} {listed:Array Bool} {S:List Nat} (hl:listed.size=ops.size) (hS:∀i,i<ops.size->(listed.getD i false=true↔i∈S)) (hb:∀(k:Nat) (o:Oper),ops[k]?=some o->∀e∈dC o,e<k)
  {i:Nat} (hi:i<ops.size):ready ops listed i=true↔i∉S/\∀o,ops[i]?=some o->∀e∈dC o,e∈S:=by
 have ho:ops[i]?=some ops[i]:=by simp [hi]
 have e1:listed.getD i true=listed.getD i false:=by simp [Array.getD,hl,hi]
 unfold ready
 rw [e1,ho]
 simp only [map_some,getD_some,and_eq_true,Bool.not_eq_true',Option.some.injEq,forall_eq']
 have h1:listed.getD i false=false↔i∉S:=by
  rw [<-hS i hi]
  cases listed.getD i false <;> simp
 rw [h1]
 refine and_congr_right λ_=>?_
 rw [Array.all_eq_true']
 constructor
 ·intro h e he
  have ar:=hb i _ ho e he
  unfold dC at he
  simp only [List.mem_filterMap] at he
  obtain ⟨x,hx,AY⟩:=he
  split at AY
  ·rename_i ti
   simp at AY
   subst AY
   have:=h x (by simpa using hx)
   simp only [or_eq_true,Bool.not_eq_true',ti] at this
   exact (hS _ (by omega)).1 (by simpa using this)
  ·cases AY
 ·intro h x hx
  cases ti:Region.binds .any x with
  | false=>simp
  | true=>
   have hm:x.on∈dC ops[i]:=by
    unfold dC
    simp only [List.mem_filterMap]
    exact ⟨x,by simpa using hx,by simp [ti]⟩
   have ar:=hb i _ ho _ hm
   simp [(hS x.on (by omega)).2 (h _ hm)]
theorem Bn:∀{l m:List Nat},l.Nodup->l ⊆ m->l.length<=m.length
 | [],m,_,_=>by simp
 | x::l,m,hd,hs=>by
  have hx:x∈m:=hs (by simp)
  rw [nodup_cons] at hd
  have h1:l ⊆ m.erase x:=by
   intro y hy
   have aU:y≠x:=by rintro rfl;exact hd.1 hy
   exact (List.mem_erase_of_ne aU).2 (hs (by simp [hy]))
  have h2:=Bn hd.2 h1
  rw [List.length_erase_of_mem hx] at h2
  have:0<m.length:=List.length_pos_of_mem hx
  simp
  omega
theorem aeM {n:Nat} {S:List Nat} (hlen:S.length<n):∃i,i<n/\i∉S/\∀k,k<i->k∈S:=by
 have hex:∃i,i<n/\i∉S:=by
  apply byContradiction
  intro cL
  have gP:∀i,i<n->i∈S:=λi hi=>byContradiction λh=>cL ⟨i,hi,h⟩
  have v7:List.range n ⊆ S:=λi hi=>gP i (mem_range.1 hi)
  have:=Bn (List.nodup_range (n:=n)) v7
  simp at this
  omega
 have key:∀m,(∃i,i<m/\i<n/\i∉S)->∃i,i<n/\i∉S/\∀k,k<i->k∈S:=by
  intro m
  induction m with
  | zero=>rintro ⟨i,h,_⟩;omega
  | succ m ih=>
   rintro ⟨i,h1,h2,h3⟩
   by_cases dX:∃i,i<m/\i<n/\i∉S
   ·exact ih dX
   ·have AH:i=m:=by
     by_cases e:i=m
     ·exact e
     ·exact absurd ⟨i,by omega,h2,h3⟩ dX
    subst AH
    refine ⟨i,h2,h3,λk hk=>byContradiction λvO=>dX ⟨k,hk,by omega,vO⟩⟩
 obtain ⟨i,h1,h2⟩:=hex
 exact key n ⟨i,h1,h1,h2⟩
theorem Qx {ops:Array Oper} (hb:∀(k:Nat) (o:Oper),ops[k]?=some o->∀e∈dC o,e<k):∀(fuel t:Nat) (listed:Array Bool) (acc:List Nat),listed.size=ops.size->
  (∀i,i<ops.size->(listed.getD i false=true↔i∈acc))->acc.Nodup->(∀i∈acc,i<ops.size)->acc.length+fuel=ops.size->
  ∃l,Region.linearise.go .any ops fuel t listed acc=acc.reverse++l/\qy ops acc l
 | 0,t,listed,acc,hl,hS,hd,ar,hf=>by
  refine ⟨[],by simp [Region.linearise.go],.nil ?_⟩
  intro i hi
  apply byContradiction
  intro h
  have v7:(i::acc) ⊆ List.range ops.size:=by
   intro x hx
   rcases mem_cons.1 hx with rfl | hx
   ·simpa using hi
   ·simpa using ar x hx
  have:=Bn (nodup_cons.2 ⟨h,hd⟩) v7
  simp at this
  omega
 | fuel+1,t,listed,acc,hl,hS,hd,ar,hf=>by
  rw [agq]
  obtain ⟨i0,Q3,ahg,ahf⟩:=aeM (n:=ops.size) (S:=acc) (by omega)
  have tD:ready ops listed i0=true:=(Xd hl hS hb Q3).2 ⟨ahg,λo ho e he=>ahf e (hb i0 o ho e he)⟩
  have j6:0<((List.range ops.size).filter (ready ops listed)).length:=List.length_pos_of_mem (mem_filter.2 ⟨mem_range.2 Q3,tD⟩)
  have bA:∃i,((List.range ops.size).filter (ready ops listed))[t%((List.range ops.size).filter (ready ops listed)).length]?=some i:=⟨_,getElem?_eq_getElem (Nat.mod_lt _ j6)⟩
  obtain ⟨i,hi⟩:=bA
  rw [hi]
  have iI:=List.mem_of_getElem? hi
  simp only [mem_filter,mem_range] at iI
  obtain ⟨gS,ah7⟩:=iI
  obtain ⟨oM,q7⟩:=(Xd hl hS hb gS).1 ah7
  obtain ⟨l,h1,h2⟩:=Qx hb fuel (t / ((List.range ops.size).filter (ready ops listed)).length) (listed.setIfInBounds i true) (i::acc) (by simpa using hl) (by
   intro k hk
   by_cases e:k=i
   ·subst e;simp [Array.getD,hl,hk]
   ·have:(listed.setIfInBounds i true).getD k false=listed.getD k false:=by
     simp only [Array.getD_eq_getD_getElem?,Array.getElem?_setIfInBounds]
     rw [if_neg (Ne.symm e)]
    rw [this,hS k hk]
    simp [e]) (nodup_cons.2 ⟨oM,hd⟩) (by
   intro k hk
   rcases mem_cons.1 hk with rfl | hk
   ·exact gS
   ·exact ar k hk) (by simp;omega)
  refine ⟨i::l,by simp only [h1];simp,?_⟩
  exact .cons (o:=ops[i]) (by simp [gS]) oM (q7 _ (by simp [gS])) h2
theorem Sm {ops:Array Oper} (hb:qD ops.toList 0=true) (t:Nat):qy ops [] (Region.linearise .any ops t):=by
 have hQ:∀(k:Nat) (o:Oper),ops[k]?=some o->∀e∈dC o,e<k:=by
  intro k o hk e he
  have:=yX hb k o (by simpa using hk) e he
  omega
 obtain ⟨l,h1,h2⟩:=Qx hQ ops.size t (replicate ops.size false) [] (by simp) (by intro i hi;simp [Array.getD,hi]) .nil (by simp) (by simp)
 have:Region.linearise .any ops t=l:=by
  unfold Region.linearise
  rw [h1]
  simp
 rw [this]
 exact h2
end
section
theorem Fj {f f':Nat->Value}:∀{l:List Operand},(∀t∈tmpsOf l,f t=f' t)->∀x∈l,ev f x=ev f' x
 | [],_,x,hx=>by simp at hx
 | y::l,h,x,hx=>by
  have h':∀t∈tmpsOf l,f t=f' t:=by
   intro t ht
   apply h
   cases y <;> simp [tmpsOf,ht]
  rcases mem_cons.1 hx with rfl | hx
  ·cases x with
   | tmp t=>exact h t (by simp [tmpsOf])
   | _=>rfl
  ·exact Fj h' x hx
theorem wD {g g':Operand->Value} {xs:List Operand} (h:∀x∈xs,g x=g' x):xs.map g=xs.map g':=List.map_congr_left h
theorem Bt {g g':Operand->Value} {x:Option Operand} (h:∀y∈x.toList,g y=g' y):x.map g=x.map g':=by
 cases x with
 | none=>rfl
 | some y=>simp [h y (by simp)]
theorem BP {g g':Operand->Value} {ps:List (Nat×Nat×Operand)} (h:∀x∈ps.map (·.2.2),g x=g' x):(ps.map λ(o,s,x)=>(o,s,g x))=ps.map λ(o,s,x)=>(o,s,g' x):=by
 apply List.map_congr_left
 rintro ⟨o,s,x⟩ hx
 simp [h x (by simp;exact ⟨o,s,hx⟩)]
theorem ai5 {o:kM} {g g':Operand->Value} (h:∀x∈o.eO,g x=g' x):fH o g=fH o g':=by
 cases o with
 | wE mx xs=>
  simp only [fH]
  rw [wD (xs:=xs) h]
 | Cb x lo hi=>
  simp only [fH,kM.eO] at*
  rw [h x (by simp),Bt (x:=lo) (λy hy=>h y (by simp at hy⊢;exact .inr (.inl hy))),Bt (x:=hi) (λy hy=>h y (by simp at hy⊢;exact .inr (.inr hy)))]
 | Cd e s x lo hi=>
  simp only [fH,kM.eO] at*
  rw [h x (by simp),Bt (x:=lo) (λy hy=>h y (by simp at hy⊢;exact .inr (.inl hy))),Bt (x:=hi) (λy hy=>h y (by simp at hy⊢;exact .inr (.inr hy)))]
 | fn f first captured=>
  simp only [fH,kM.eO] at*
  rw [wD (xs:=first) (λx hx=>h x (by simp [hx])),wD (xs:=captured) (λx hx=>h x (by simp [hx]))]
 | build zero parts=>
  simp only [fH]
  rw [BP (ps:=parts) h]
 | _=>simp [kM.eO] at h;simp [fH,h]
theorem aiV {o:kr} {g g':Operand->Value} (h:∀x∈o.eO,g x=g' x) (H:ae):dJ o g H=dJ o g' H:=by
 cases o <;> simp [kr.eO] at h <;> simp [dJ,h]
theorem aiR {o:kn} {g g':Operand->Value} (h:∀x∈o.eO,g x=g' x) (H:ae):dY o g H=dY o g' H:=by
 cases o with
 | ju e n zs ps=>
  simp only [dY]
  rw [BP (ps:=ps) h]
 | fl a=>
  cases a with
  | ju e n zs ps=>
   simp only [dY]
   rw [BP (ps:=ps) h]
  | _=>simp [kn.eO,iT.eO] at h;simp [dY,h]
 | _=>simp [kn.eO] at h;simp [dY,h]
theorem Cg {P:Program} {io:eI} {f f':Nat->Value} {h:ae} {K:Value->ae->Prop} (hf:∀t∈tmpsOf io.eO,f t=f' t):bY P io f h K↔bY P io f' h K:=by
 have he:=Fj hf
 cases io with
 | p o=>simp only [bY];rw [ai5 he]
 | l o=>simp only [bY];rw [aiV he]
 | e o=>simp only [bY];rw [aiR he]
 | call g args=>
  simp only [bY]
  rw [wD (xs:=args) he]
 | hK x args=>simp only [bY];rw [he x (by simp [eI.eO]),wD (xs:=args) (λy hy=>he y (by simp [eI.eO,hy]))]
structure Trace (P:Program) (l:List bQ) (j0:Nat) (F:Nat->Nat->Value) (H:Nat->ae) (V:Nat->Value):Prop where
 qb:∀k o,l[k]?=some o->F (j0+k+1)=ck (F (j0+k)) o.op.dst (V (j0+k))
 FL:∀k o,l[k]?=some o->mh o.op.guard (F (j0+k))
 yes:∀k o,l[k]?=some o->fq o.op.guard (F (j0+k))=true->bY P o.op.op (F (j0+k)) (H (j0+k)) λv h'=>v=V (j0+k)/\h'=H (j0+k+1)
 no:∀k o,l[k]?=some o->fq o.op.guard (F (j0+k))=false->V (j0+k)=undef/\H (j0+k+1)=H (j0+k)
 I9:∀e oe k ok lo,l[e]?=some oe->oe.op.op.cj=true->l[k]?=some ok->ok.op.op=.l lo->fq ok.op.guard (F (j0+k))=true->e<k->ok.pre.testBit (j0+e)=false->
  dJ lo (ev (F (j0+k))) (H (j0+e))=some (V (j0+k))
 FB:∀k ok lo e oe,l[k]?=some ok->ok.op.op=.l lo->fq ok.op.guard (F (j0+k))=true->l[e]?=some oe->oe.op.op.cj=true->k<e->oe.pre.testBit (j0+k)=false->
  dJ lo (ev (F (j0+k))) (H (j0+e+1))=some (V (j0+k))
 Qk:∀k ok a,l[k]?=some ok->ok.op.op=.e (.fl a)->fq ok.op.guard (F (j0+k))=true->∃u,cF (H (j0+k+1)) (V (j0+k))=some u/\
  ∀e oe,l[e]?=some oe->oe.op.op.cj=true->k<e->oe.pre.testBit (j0+k)=false->cF (H (j0+e+1)) (V (j0+k))=some u
theorem E2 {pre:Nat} {lo:kr} {f:Nat->Value} {v:Value}:∀{hs:List (Nat×ae)},pA pre lo f v hs->∀e H,(e,H)∈hs->pre.testBit e=false->dJ lo (ev f) H=some v
 | [],_,e,H,hm,_=>by simp at hm
 | (e',H')::r,h,e,H,hm,hp=>by
  simp only [pA] at h
  rcases mem_cons.1 hm with hq | hm
  ·cases hq
   rw [if_neg (by rw [hp];simp)] at h
   exact h.1
  ·split at h
   ·exact E2 h e H hm hp
   ·exact E2 h.2 e H hm hp
theorem ve {pre:Nat} {H:ae}:∀{ls:cX},ik pre H ls->∀j lo f v,(j,lo,f,v)∈ls->pre.testBit j=false->dJ lo (ev f) H=some v
 | [],_,j,lo,f,v,hm,_=>by simp at hm
 | (j',kc,f',v')::r,h,j,lo,f,v,hm,hp=>by
  simp only [ik] at h
  rcases mem_cons.1 hm with hq | hm
  ·cases hq
   rw [if_neg (by rw [hp];simp)] at h
   exact h.1
  ·split at h
   ·exact ve h j lo f v hm hp
   ·exact ve h.2 j lo f v hm hp
def uS (P:Program) (l:List bQ) (j:Nat) (aE:List (Nat×ae)) (aB:cX) (K:(Nat->Value)->ae->Prop) (f:Nat->Value) (h:ae):Prop:=
 ∃F H V,F j=f/\H j=h/\K (F (j+l.length)) (H (j+l.length))/\Trace P l j F H V/\
  (∀e Hh,(e,Hh)∈aE->∀k ok lo,l[k]?=some ok->ok.op.op=.l lo->fq ok.op.guard (F (j+k))=true->ok.pre.testBit e=false->dJ lo (ev (F (j+k))) Hh=some (V (j+k)))/\
  (∀i lo ff v,(i,lo,ff,v)∈aB->∀e oe,l[e]?=some oe->oe.op.op.cj=true->oe.pre.testBit i=false->dJ lo (ev ff) (H (j+e+1))=some v)
theorem GO {P:Program}:∀{l:List bQ} {j:Nat} {aE:List (Nat×ae)} {aB:cX} {K:(Nat->Value)->ae->Prop} {f:Nat->Value} {h:ae},hT P l j aE aB K f h->uS P l j aE aB K f h
 | [],j,aE,aB,K,f,h,hi=>
  ⟨λ_=>f,λ_=>h,λ_=>undef,rfl,rfl,hi,⟨λk o hk=>by simp at hk,λk o hk=>by simp at hk,λk o hk=>by simp at hk,λk o hk=>by simp at hk,λe oe k ok lo hk=>by simp at hk,λk ok lo e oe hk=>by simp at hk,λk ok a hk=>by simp at hk⟩,
   λe Hh hm k ok lo hk=>by simp at hk,λi lo ff v hm e oe hk=>by simp at hk⟩
 | o::os,j,aE,aB,K,f,h,hi=>by
  -- je rest,and how je first step is laid ahead of it
  have key:∀(v:Value) (h':ae) (kB:List (Nat×ae)) (ke:cX),mh o.op.guard f->hT P os (j+1) kB ke K (ck f o.op.dst v) h'->
    (∀p∈aE,p∈kB)->(∀p∈aB,p∈ke)->(o.op.op.cj=true->(j,h)∈kB)->(∀lo,o.op.op=.l lo->fq o.op.guard f=true->(j,lo,f,v)∈ke)->
    (fq o.op.guard f=true->bY P o.op.op f h λu g=>u=v/\g=h')->(fq o.op.guard f=false->v=undef/\h'=h)->
    (∀lo,o.op.op=.l lo->fq o.op.guard f=true->∀e Hh,(e,Hh)∈aE->o.pre.testBit e=false->dJ lo (ev f) Hh=some v)->
    (o.op.op.cj=true->∀i lo ff u,(i,lo,ff,u)∈aB->o.pre.testBit i=false->dJ lo (ev ff) h'=some u)->
    (∀a,o.op.op=.e (.fl a)->fq o.op.guard f=true->∃u,cF h' v=some u/\(j,.obj (.const v),f,u)∈ke)->
    uS P (o::os) j aE aB K f h:=by
   intro v h' kB ke gQ aia hh hl hE hL hy hn hp hf mA
   obtain ⟨F,H,V,f1,f2,f3,T,fp,ff⟩:=GO aia
   have over:∀{α:Type} (x:α) (G:Nat->α),∃G2:Nat->α,G2 j=x/\(∀k,G2 (j+k+1)=G (j+1+k))/\∀k,G2 (j+(k+1))=G (j+1+k):=by
    intro α x G
    refine ⟨λk=>if k=j then x else G k,by simp,λk=>?_,λk=>?_⟩
    ·show (if j+k+1=j then x else G (j+k+1))=_
     rw [if_neg (by omega)]
     congr 1
     omega
    ·show (if j+(k+1)=j then x else G (j+(k+1)))=_
     rw [if_neg (by omega)]
     congr 1
     omega
   obtain ⟨F2,ot,P3,eF⟩:=over f F
   obtain ⟨H2,Af,pE,eH⟩:=over h H
   obtain ⟨V2,qL,eV1,eV⟩:=over v V
   have afP:F2 (j+1)=F (j+1):=P3 0
   have Ag:H2 (j+1)=H (j+1):=pE 0
   refine ⟨F2,H2,V2,ot,Af,?_,?_,?_,?_⟩
   ·rw [length_cons,eF,eH]
    exact f3
   ·constructor
    ·intro k ok hk
     cases k with
     | zero=>
      simp at hk;subst hk
      simp only [add_zero]
      rw [afP,ot,qL]
      exact f1
     | succ k=>
      have:=T.qb k ok (by simpa using hk)
      rw [P3,eF,eV,show j+1+(k+1)=j+1+k+1 by omega]
      exact this
    ·intro k ok hk
     cases k with
     | zero=>
      simp at hk;subst hk
      simp only [add_zero]
      rw [ot]
      exact gQ
     | succ k=>
      rw [eF]
      exact T.FL k ok (by simpa using hk)
    ·intro k ok hk hw
     cases k with
     | zero=>
      simp at hk;subst hk
      simp only [add_zero] at hw⊢
      rw [ot] at hw
      rw [Ag,ot,Af,qL,f2]
      exact hy hw
     | succ k=>
      rw [eF] at hw
      rw [pE,eF,eH,eV,show j+1+(k+1)=j+1+k+1 by omega]
      exact T.yes k ok (by simpa using hk) hw
    ·intro k ok hk hw
     cases k with
     | zero=>
      simp at hk;subst hk
      simp only [add_zero] at hw⊢
      rw [ot] at hw
      rw [Ag,Af,qL,f2]
      exact hn hw
     | succ k=>
      rw [eF] at hw
      rw [pE,eH,eV,show j+1+(k+1)=j+1+k+1 by omega]
      exact T.no k ok (by simpa using hk) hw
    ·intro e oe k ok lo he dU hk dX hw ar eL
     cases k with
     | zero=>omega
     | succ k=>
      rw [eF] at hw⊢
      rw [eV]
      cases e with
      | zero=>
       simp at he;subst he
       simp only [add_zero] at eL⊢
       rw [Af]
       exact fp j h (hE dU) k ok lo (by simpa using hk) dX hw eL
      | succ e=>
       rw [eH]
       rw [show j+(e+1)=j+1+e by omega] at eL
       exact T.I9 e oe k ok lo (by simpa using he) dU (by simpa using hk) dX hw (by omega) eL
    ·intro k ok lo e oe hk dX hw he dU ar eL
     cases e with
     | zero=>omega
     | succ e=>
      rw [pE,show j+1+(e+1)=j+1+e+1 by omega]
      cases k with
      | zero=>
       simp at hk;subst hk
       simp only [add_zero] at hw eL⊢
       rw [ot] at hw⊢
       rw [qL]
       exact ff j lo f v (hL lo dX hw) e oe (by simpa using he) dU eL
      | succ k=>
       rw [eF] at hw⊢
       rw [eV]
       rw [show j+(k+1)=j+1+k by omega] at eL
       exact T.FB k ok lo e oe (by simpa using hk) dX hw (by simpa using he) dU (by omega) eL
    ·intro k ok a hk bX hw
     cases k with
     | zero=>
      simp at hk;subst hk
      simp only [add_zero] at hw⊢
      rw [ot] at hw
      obtain ⟨u,u1,u2⟩:=mA a bX hw
      refine ⟨u,by rw [Ag,qL,f2];exact u1,?_⟩
      intro e oe he dU ar eL
      cases e with
      | zero=>omega
      | succ e=>
       rw [pE,show j+1+(e+1)=j+1+e+1 by omega,qL]
       exact ff j (.obj (.const v)) f u u2 e oe (by simpa using he) dU eL
     | succ k=>
      rw [eF] at hw
      obtain ⟨u,u1,u2⟩:=T.Qk k ok a (by simpa using hk) bX hw
      refine ⟨u,by rw [pE,eV,show j+1+(k+1)=j+1+k+1 by omega];exact u1,?_⟩
      intro e oe he dU ar eL
      cases e with
      | zero=>omega
      | succ e=>
       rw [pE,show j+1+(e+1)=j+1+e+1 by omega,eV]
       rw [show j+(k+1)=j+1+k by omega] at eL
       exact u2 e oe (by simpa using he) dU (by omega) eL
   ·intro e Hh hm k ok lo hk dX hw eL
    cases k with
    | zero=>
     simp at hk;subst hk
     simp only [add_zero] at hw⊢
     rw [ot] at hw⊢
     rw [qL]
     exact hp lo dX hw e Hh hm eL
    | succ k=>
     rw [eF] at hw⊢
     rw [eV]
     exact fp e Hh (hh _ hm) k ok lo (by simpa using hk) dX hw eL
   ·intro i lo Qf u hm e oe he dU eL
    cases e with
    | zero=>
     simp at he;subst he
     simp only [add_zero]
     rw [Ag,f2]
     exact hf dU i lo Qf u hm eL
    | succ e=>
     rw [pE,show j+1+(e+1)=j+1+e+1 by omega]
     exact ff i lo Qf u (hl _ hm) e oe (by simpa using he) dU eL
  have go:mh o.op.guard f->fq o.op.guard f=true->hO P o.op.op o.pre j aE aB f h (λaE aB v h'=>hT P os (j+1) aE aB K (ck f o.op.dst v) h')->uS P (o::os) j aE aB K f h:=λgQ hw hd=>by
   have Fe:o.op.op.cj=true->(∀a,o.op.op≠ .e (.fl a))->bY P o.op.op f h (λv h'=>ik o.pre h' aB/\hT P os (j+1) (aE++[(j,h)]) aB K (ck f o.op.dst v) h')->uS P (o::os) j aE aB K f h:=λhE lK hs=>by
    have Rh:∀lo,o.op.op≠ .l lo:=by intro lo e;rw [e] at hE;cases hE
    have ex:∃v h',bY P o.op.op f h (λu g=>u=v/\g=h')/\ik o.pre h' aB/\hT P os (j+1) (aE++[(j,h)]) aB K (ck f o.op.dst v) h':=by
     generalize o.op.op=io at hs⊢
     cases io with
     | p po=>
      simp only [bY,dK] at hs⊢
      split at hs
      ·exact ⟨_,_,⟨rfl,rfl⟩,hs⟩
      ·exact hs.elim
     | l lo=>
      simp only [bY,dK] at hs⊢
      split at hs
      ·exact ⟨_,_,⟨rfl,rfl⟩,hs⟩
      ·exact hs.elim
     | e eo=>
      simp only [bY,jc] at hs⊢
      split at hs
      ·exact ⟨_,_,⟨rfl,rfl⟩,hs⟩
      ·exact hs.elim
     | call g args=>
      obtain ⟨v,h',hc,hk⟩:=hs
      exact ⟨v,h',⟨v,h',hc,rfl,rfl⟩,hk⟩
     | hK x args=>
      simp only [bY,nv] at hs⊢
      split at hs
      ·obtain ⟨iY,v,h',hc,hk⟩:=hs
       exact ⟨v,h',⟨iY,v,h',hc,rfl,rfl⟩,hk⟩
      ·obtain ⟨iY,v,h',hc,hk⟩:=hs
       exact ⟨v,h',⟨iY,v,h',hc,rfl,rfl⟩,hk⟩
      ·exact hs.elim
    obtain ⟨v,h',s1,s2,s3⟩:=ex
    exact key v h' _ _ gQ s3 (λp hp=>by simp [hp]) (λp hp=>hp) (λ_=>by simp) (λlo e=>absurd e (Rh lo)) (λ_=>s1) (λhf=>by rw [hw] at hf;cases hf) (λlo e=>absurd e (Rh lo))
     (λ_ i lo ff u hm eL=>ve s2 i lo ff u hm eL) (λa e=>absurd e (lK a))
   cases bX:o.op.op with
   | p po=>
    rw [bX] at hd
    simp only [hO,dK] at hd
    split at hd
    ·rename_i v hv
     exact key v h _ _ gQ hd (λp hp=>hp) (λp hp=>hp) (λhE=>by rw [bX] at hE;cases hE) (λlo e=>by rw [bX] at e;cases e) (λ_=>by rw [bX];simp [bY,dK,hv]) (λhf=>by rw [hw] at hf;cases hf)
      (λlo e=>by rw [bX] at e;cases e) (λhE=>by rw [bX] at hE;cases hE) (λa e=>by rw [bX] at e;cases e)
    ·exact hd.elim
   | l lo=>
    rw [bX] at hd
    simp only [hO,dK] at hd
    split at hd
    ·rename_i v hv
     exact key v h _ _ gQ hd.2 (λp hp=>hp) (λp hp=>by simp [hp]) (λhE=>by rw [bX] at hE;cases hE) (λkc e _=>by rw [bX] at e;cases e;simp) (λ_=>by rw [bX];simp [bY,dK,hv]) (λhf=>by rw [hw] at hf;cases hf)
      (λkc e _ e' Hh hm eL=>by rw [bX] at e;cases e;exact E2 hd.1 e' Hh hm eL) (λhE=>by rw [bX] at hE;cases hE) (λa e=>by rw [bX] at e;cases e)
    ·exact hd.elim
   | e eo=>
    cases eo with
    | fl a=>
     rw [bX] at hd
     simp only [hO,jc] at hd
     split at hd
     ·rename_i v h' hv
      simp only [dK] at hd
      split at hd
      ·rename_i u hu
       exact key v h' _ _ gQ hd.2 (λp hp=>by simp [hp]) (λp hp=>by simp [hp]) (λ_=>by simp) (λlo e=>by rw [bX] at e;cases e) (λ_=>by rw [bX];simp [bY,jc,hv]) (λhf=>by rw [hw] at hf;cases hf)
        (λlo e=>by rw [bX] at e;cases e) (λ_ i lo ff u hm eL=>ve hd.1 i lo ff u hm eL) (λa' _ _=>⟨u,hu,by simp⟩)
      ·exact hd.elim
     ·exact hd.elim
    | _=>exact Fe (by rw [bX];rfl) (λa e=>by rw [bX] at e;cases e) (by rw [bX] at hd⊢;exact hd)
   | call g args=>exact Fe (by rw [bX];rfl) (λa e=>by rw [bX] at e;cases e) (by rw [bX] at hd⊢;exact hd)
   | hK x args=>exact Fe (by rw [bX];rfl) (λa e=>by rw [bX] at e;cases e) (by rw [bX] at hd⊢;exact hd)
  have skip:mh o.op.guard f->fq o.op.guard f=false->pD o.op.op o.pre j aE aB h (λaE aB v h'=>hT P os (j+1) aE aB K (ck f o.op.dst v) h')->uS P (o::os) j aE aB K f h:=λgQ hw hd=>by
   unfold pD at hd
   split at hd
   ·rename_i hE
    exact key undef h _ _ gQ hd (λp hp=>hp) (λp hp=>hp) (λdU=>by rw [hE] at dU;cases dU) (λlo _ hf=>by rw [hw] at hf;cases hf) (λhf=>by rw [hw] at hf;cases hf) (λ_=>⟨rfl,rfl⟩)
     (λlo _ hf=>by rw [hw] at hf;cases hf) (λdU=>by rw [hE] at dU;cases dU) (λa _ hf=>by rw [hw] at hf;cases hf)
   ·rename_i hE
    exact key undef h _ _ gQ hd.2 (λp hp=>by simp [hp]) (λp hp=>hp) (λ_=>by simp) (λlo _ hf=>by rw [hw] at hf;cases hf) (λhf=>by rw [hw] at hf;cases hf) (λ_=>⟨rfl,rfl⟩)
     (λlo _ hf=>by rw [hw] at hf;cases hf) (λ_ i lo ff u hm eL=>ve hd.1 i lo ff u hm eL) (λa _ hf=>by rw [hw] at hf;cases hf)
  simp only [hT] at hi
  split at hi
  ·rename_i gR
   exact go (by rw [gR];trivial) (by rw [gR];rfl) hi
  ·rename_i s b gR
   obtain ⟨e1,e2⟩:=Au hi
   rcases e2 with ⟨e2,e3⟩ | ⟨e2,e3⟩
   ·exact go (by rw [gR];exact e1) (by rw [gR];exact e2) e3
   ·exact skip (by rw [gR];exact e1) (by rw [gR];exact e2) e3
def nz (g:Option (Nat×Bool)) (l:List gD):List bQ:=l.map λo=>⟨⟨o.dst,o.op,g⟩,o.pre⟩
def nA:List (Option (Nat×Bool)×List gD)->List bQ
 | []=>[]
 | (g,l)::gs=>nz g l++nA gs
theorem Ab:∀os:List bQ,nA (pC os)=os
 | []=>rfl
 | o::os=>by
  have ih:=Ab os
  simp only [pC]
  cases hg:pC os with
  | nil=>
   rw [hg] at ih
   simp only [nA] at ih
   subst ih
   simp [nA,nz]
  | cons a gs=>
   obtain ⟨g,l⟩:=a
   rw [hg] at ih
   simp only
   split
   ·rename_i he
    simp only [nA,nz,map_cons,cons_append] at ih⊢
    rw [ih,<-he]
   ·simp only [nA,nz,map_cons,List.map_nil,cons_append,List.nil_append] at ih⊢
    rw [ih]
theorem PZ {l:List bQ} (h:l.all (λo=>leaves o.op.guard o.op.dst)=true):∀g m,(g,m)∈pC l->∀o∈m,leaves g o.dst=true:=by
 intro g m hm o ho
 have iI:(⟨⟨o.dst,o.op,g⟩,o.pre⟩:bQ)∈nA (pC l):=by
  generalize pC l=gs at hm
  induction gs with
  | nil=>simp at hm
  | cons a gs ih=>
   obtain ⟨g',m'⟩:=a
   simp only [nA,List.mem_append]
   rcases mem_cons.1 hm with he | hm
   ·cases he
    left
    simp only [nz,mem_map]
    exact ⟨o,ho,rfl⟩
   ·exact .inr (ih hm)
 rw [Ab] at iI
 rw [all_eq_true] at h
 exact h _ iI
theorem P1 {P:Program} {io:eI} {pre j:Nat} {aE:List (Nat×ae)} {aB:cX} {f:Nat->Value} {h:ae} {K K':List (Nat×ae)->cX->Value->ae->Prop} (hm:∀a b v h,K a b v h->K' a b v h)
  (hs:hO P io pre j aE aB f h K):hO P io pre j aE aB f h K':=by
 cases io with
 | p po=>simp only [hO,dK] at hs⊢;split at hs <;> first | exact hm _ _ _ _ hs | exact hs.elim
 | l lo=>simp only [hO,dK] at hs⊢;split at hs <;> first | exact ⟨hs.1,hm _ _ _ _ hs.2⟩ | exact hs.elim
 | e eo=>
  cases eo with
  | fl a=>
   simp only [hO,jc,dK] at hs⊢
   split at hs
   ·split at hs <;> first | exact ⟨hs.1,hm _ _ _ _ hs.2⟩ | exact hs.elim
   ·exact hs.elim
  | _=>simp only [hO,jc] at hs⊢;split at hs <;> first | exact ⟨hs.1,hm _ _ _ _ hs.2⟩ | exact hs.elim
 | call g args=>exact lN.mono hs λv h hk=>⟨hk.1,hm _ _ _ _ hk.2⟩
 | hK x args=>simp only [hO,nv] at hs⊢;split at hs <;> first | exact ⟨hs.1,hs.2.mono λv h hk=>⟨hk.1,hm _ _ _ _ hk.2⟩⟩ | exact hs.elim
theorem P0 {io:eI} {pre j:Nat} {aE:List (Nat×ae)} {aB:cX} {h:ae} {K K':List (Nat×ae)->cX->Value->ae->Prop} (hm:∀a b v h,K a b v h->K' a b v h)
  (hs:pD io pre j aE aB h K):pD io pre j aE aB h K':=by
 unfold pD at hs⊢
 split at hs
 ·exact hm _ _ _ _ hs
 ·exact ⟨hs.1,hm _ _ _ _ hs.2⟩
theorem J7 {f:Nat->Value} {d:Option Nat} {s:Nat} (hd:d≠some s) (v:Value):ck f d v s=f s:=by
 cases ho:d with
 | none=>rfl
 | some x=>
  have:s≠x:=by rintro rfl;exact hd ho
  simp [ck,m7,this]
theorem Qr {P:Program} {g:Option (Nat×Bool)} {r:List bQ} {K:(Nat->Value)->ae->Prop}:∀{l:List gD} {j:Nat} {aE:List (Nat×ae)} {aB:cX} {f:Nat->Value} {h:ae},(∀o∈l,leaves g o.dst=true)->
  (∀s b,g=some (s,b)->oU (f s)=false/\lp (f s) b=true)->
  j1 P l j aE aB (λaE aB f h=>hT P r (j+l.length) aE aB K f h) f h->hT P (nz g l++r) j aE aB K f h:=by
 intro l
 induction l with
 | nil=>intro j aE aB f h _ _ hk;exact hk
 | cons o l ih=>
  intro j aE aB f h hl hg hk
  simp only [j1] at hk
  simp only [nz,map_cons,cons_append,hT]
  have step:hO P o.op o.pre j aE aB f h λaE aB v h'=>hT P (nz g l++r) (j+1) aE aB K (ck f o.dst v) h':=by
   refine P1 (λa b v h' bO=>?_) hk
   refine ih (λo' cr=>hl o' (by simp [cr])) ?_ ?_
   ·intro s bb hs
    have hd:o.dst≠some s:=by have:=hl o (by simp);rw [hs] at this;simpa [leaves] using this
    rw [J7 hd]
    exact hg s bb hs
   ·rw [length_cons] at bO
    rw [show j+1+l.length=j+(l.length+1) by omega]
    exact bO
  cases gR:g with
  | none=>rw [gR] at step;exact step
  | some sb=>
   obtain ⟨s,b⟩:=sb
   obtain ⟨e1,e2⟩:=hg s b gR
   rw [gR] at step
   exact FP e1 (λ_=>step) (λh=>by rw [e2] at h;cases h)
theorem agl {P:Program} {s:Nat} {b:Bool} {r:List bQ} {K:(Nat->Value)->ae->Prop}:∀{l:List gD} {j:Nat} {aE:List (Nat×ae)} {aB:cX} {f:Nat->Value} {h:ae},(∀o∈l,leaves (some (s,b)) o.dst=true)->
  oU (f s)=false->lp (f s) b=false->
  oC l j aE aB (λaE aB f h=>hT P r (j+l.length) aE aB K f h) f h->hT P (nz (some (s,b)) l++r) j aE aB K f h:=by
 intro l
 induction l with
 | nil=>intro j aE aB f h _ _ _ hk;exact hk
 | cons o l ih=>
  intro j aE aB f h hl e1 e2 hk
  simp only [oC] at hk
  simp only [nz,map_cons,cons_append,hT]
  refine FP e1 (λh=>by rw [e2] at h;cases h) (λ_=>?_)
  refine P0 (λa c v h' bO=>?_) hk
  have hd:o.dst≠some s:=by have:=hl o (by simp);simpa [leaves] using this
  refine ih (λo' cr=>hl o' (by simp [cr])) (by rw [J7 hd];exact e1) (by rw [J7 hd];exact e2) ?_
  rw [length_cons] at bO
  rw [show j+1+l.length=j+(l.length+1) by omega]
  exact bO
theorem FH {P:Program} {K K':List (Nat×ae)->cX->(Nat->Value)->ae->Prop} (hm:∀a b f h,K a b f h->K' a b f h):∀{l:List gD} {j:Nat} {aE:List (Nat×ae)} {aB:cX} {f:Nat->Value} {h:ae},
  j1 P l j aE aB K f h->j1 P l j aE aB K' f h
 | [],_,_,_,_,_,hk=>hm _ _ _ _ hk
 | _::_,_,_,_,_,_,hk=>P1 (λ_ _ _ _ bO=>FH hm bO) hk
theorem Qs {K K':List (Nat×ae)->cX->(Nat->Value)->ae->Prop} (hm:∀a b f h,K a b f h->K' a b f h):∀{l:List gD} {j:Nat} {aE:List (Nat×ae)} {aB:cX} {f:Nat->Value} {h:ae},
  oC l j aE aB K f h->oC l j aE aB K' f h
 | [],_,_,_,_,_,hk=>hm _ _ _ _ hk
 | _::_,_,_,_,_,_,hk=>P0 (λ_ _ _ _ bO=>Qs hm bO) hk
theorem Qq {P:Program} {K:(Nat->Value)->ae->Prop}:∀{gs:List (Option (Nat×Bool)×List gD)} {j:Nat} {aE:List (Nat×ae)} {aB:cX} {f:Nat->Value} {h:ae},(∀g l,(g,l)∈gs->∀o∈l,leaves g o.dst=true)->
  jH P gs j aE aB K f h->hT P (nA gs) j aE aB K f h:=by
 intro gs
 induction gs with
 | nil=>intro j aE aB f h _ hk;exact hk
 | cons a gs ih=>
  obtain ⟨g,l⟩:=a
  intro j aE aB f h hl hk
  have kT:∀g' l',(g',l')∈gs->∀o∈l',leaves g' o.dst=true:=λg' l' hm=>hl g' l' (by simp [hm])
  simp only [nA]
  cases g with
  | none=>
   simp only [jH] at hk
   exact Qr (hl none l (by simp)) (λs b hs=>by cases hs) (FH (λa b f h bO=>ih kT bO) hk)
  | some sb=>
   obtain ⟨s,b⟩:=sb
   simp only [jH] at hk
   obtain ⟨e1,e2⟩:=Au hk
   rcases e2 with ⟨e2,e3⟩ | ⟨e2,e3⟩
   ·exact Qr (hl _ l (by simp)) (λs' b' hs=>by cases hs;exact ⟨e1,e2⟩) (FH (λa b f h bO=>ih kT bO) e3)
   ·exact agl (hl _ l (by simp)) e1 e2 (Qs (λa b f h bO=>ih kT bO) e3)
end
section
def cW (V:Nat->Value) (S:List Nat):List bQ->Nat->(Nat->Value)->(Nat->Value)
 | [],_,f=>f
 | d::ds,i,f=>cW V S ds (i+1) (if S.contains i then ck f d.op.dst (V i) else f)
theorem pF {V:Nat->Value} {S S':List Nat} {t:Nat}:∀{l:List bQ} {i:Nat} {f f':Nat->Value},(∀k d,l[k]?=some d->d.op.dst=some t->(i+k∈S↔i+k∈S'))->f t=f' t->cW V S l i f t=cW V S' l i f' t
 | [],i,f,f',_,hf=>hf
 | d::ds,i,f,f',h,hf=>by
  simp only [cW]
  refine pF (λk d' hk hd=>?_) ?_
  ·have:=h (k+1) d' (by simpa using hk) hd
   rw [show i+(k+1)=i+1+k by omega] at this
   exact this
  ·by_cases hd:d.op.dst=some t
   ·have:=h 0 d rfl hd
    simp only [add_zero] at this
    by_cases hi:i∈S
    ·simp [hi,this.1 hi,hd,ck,m7]
    ·have dE:i∉S':=λh=>hi (this.2 h)
     simp [hi,dE,hf]
   ·have aU:∀v g,ck g d.op.dst v t=g t:=by
     intro v g
     cases vD:d.op.dst with
     | none=>rfl
     | some x=>
      have:t≠x:=by rintro rfl;exact hd vD
      simp [ck,m7,this]
    split <;> split <;> simp [aU,hf]
theorem FA {V:Nat->Value} {S:List Nat} {t:Nat}:∀{l:List bQ} {i:Nat} {f:Nat->Value} {k:Nat} {d:bQ},l[k]?=some d->d.op.dst=some t->i+k∈S->
  (∀k' d',l[k']?=some d'->d'.op.dst=some t->k<k'->i+k'∉S)->cW V S l i f t=V (i+k)
 | [],i,f,k,d,hk,_,_,_=>by simp at hk
 | d0::ds,i,f,k,d,hk,hd,hS,Ra=>by
  simp only [cW]
  cases k with
  | zero=>
   simp at hk;subst hk
   simp only [add_zero] at hS⊢
   have:cW V S ds (i+1) (if S.contains i=true then ck f d0.op.dst (V i) else f) t=cW V [] ds (i+1) (if S.contains i=true then ck f d0.op.dst (V i) else f) t:=by
    refine pF (λk' d' bO oI=>?_) rfl
    have:=Ra (k'+1) d' (by simpa using bO) oI (by omega)
    rw [show i+(k'+1)=i+1+k' by omega] at this
    simp [this]
   rw [this]
   have vS:∀(l:List bQ) (i:Nat) (f:Nat->Value),cW V [] l i f=f:=by
    intro l
    induction l with
    | nil=>intro i f;rfl
    | cons a l ih=>intro i f;simp [cW,ih]
   rw [vS]
   simp [hS,hd,ck,m7]
  | succ k=>
   have:=FA (V:=V) (S:=S) (l:=ds) (i:=i+1) (f:=if S.contains i=true then ck f d0.op.dst (V i) else f) (k:=k) (d:=d) (by simpa using hk) hd (by rw [show i+1+k=i+(k+1) by omega];exact hS) (by
    intro k' d' bO oI ar
    have:=Ra (k'+1) d' (by simpa using bO) oI (by omega)
    rw [show i+(k'+1)=i+1+k' by omega] at this
    exact this)
   rw [this]
   congr 1
   omega
theorem vp {P:Program} {l:List bQ} {F:Nat->Nat->Value} {H:Nat->ae} {V:Nat->Value} (T:Trace P l 0 F H V):∀(r:List bQ) (i:Nat) (S:List Nat) (j:Nat),(∀k,r[k]?=l[i+k]?)->(∀k,k∈S↔k<j)->i<=j->j<=i+r.length->
  cW V S r i (F i)=F j
 | [],i,S,j,_,_,h1,h2=>by
  simp at h2
  obtain rfl:i=j:=by omega
  rfl
 | d::r,i,S,j,hr,hS,h1,h2=>by
  simp only [cW]
  have h0:=hr 0
  simp only [List.getElem?_cons_zero,add_zero] at h0
  have hu:=T.qb i d h0.symm
  simp only [zero_add] at hu
  by_cases fM:i<j
  ·have:i∈S:=(hS i).2 fM
   simp only [List.contains_eq_mem,this,decide_true,if_true]
   rw [<-hu]
   exact vp T r (i+1) S j (λk=>by have:=hr (k+1);rw [show i+(k+1)=i+1+k by omega] at this;simpa using this) hS (by omega) (by simp at h2;omega)
  ·obtain rfl:i=j:=by omega
   have Gj:i∉S:=λh=>by have:=(hS i).1 h;omega
   simp only [List.contains_eq_mem,Gj,decide_false,Bool.false_eq_true,if_false]
   have ail:∀(r:List bQ) (k:Nat) (f:Nat->Value),i<=k->cW V S r k f=f:=by
    intro r
    induction r with
    | nil=>intro k f _;rfl
    | cons a r ih=>
     intro k f hk
     have:k∉S:=λh=>by have:=(hS k).1 h;omega
     simp [cW,this,ih (k+1) f (by omega)]
   exact ail r (i+1) _ (by omega)
def uL (es:List (List Nat)) (S:List Nat):Prop:=∀j e,j∈S->e∈(es.getD j [])->e∈S
theorem Wp {kF:List Nat}:∀{es:List Nat} {i:Nat},(oY kF es).testBit i=true->∃e∈es,i=e∨(kF.getD e 0).testBit i=true
 | [],i,h=>by simp [oY] at h
 | e::es,i,h=>by
  simp only [oY,Nat.testBit_or,or_eq_true] at h
  rcases h with (h | h) | h
  ·refine ⟨e,by simp,.inl ?_⟩
   rw [Nat.testBit_two_pow] at h
   exact (by simpa using h:e=i).symm
  ·exact ⟨e,by simp,.inr h⟩
  ·obtain ⟨e',h1,h2⟩:=Wp h
   exact ⟨e',by simp [h1],h2⟩
theorem aeD:∀{es:List (List Nat)} {acc:List Nat} {all:List (List Nat)},(∀k,es[k]?=all[acc.length+k]?)->(∀j i,j<acc.length->(acc.getD j 0).testBit i=true->∃e∈all.getD j [],i=e∨((fT es acc).getD e 0).testBit i=true)->
  (∀j i,((fT es acc).getD j 0).testBit i=true->∃e∈all.getD j [],i=e∨((fT es acc).getD e 0).testBit i=true):=by
 intro es
 induction es with
 | nil=>
  intro acc all _ oF j i h
  simp only [fT] at h⊢oF
  by_cases hj:j<acc.length
  ·exact oF j i hj h
  ·have:acc.getD j 0=0:=by simp [getD,le_of_not_lt hj]
   rw [this] at h
   simp at h
 | cons e0 es ih=>
  intro acc all gP oF j i h
  simp only [fT] at h⊢oF
  have cI:∀(es:List (List Nat)) (acc:List Nat) (k:Nat),k<acc.length->(fT es acc).getD k 0=acc.getD k 0:=by
   intro es
   induction es with
   | nil=>intro acc k _;rfl
   | cons a es ih'=>
    intro acc k hk
    simp only [fT]
    rw [ih' _ k (by simp;omega)]
    simp [getD,getElem?_append_left hk]
  refine ih (acc:=acc++[oY acc e0]) (all:=all) ?_ ?_ j i h
  ·intro k
   have:=gP (k+1)
   simp only [List.getElem?_cons_succ] at this
   rw [this]
   congr 1
   simp
   omega
  ·intro j' i' dH hb
   by_cases ar:j'<acc.length
   ·rw [show (acc++[oY acc e0]).getD j' 0=acc.getD j' 0 by simp [getD,getElem?_append_left ar]] at hb
    exact oF j' i' ar hb
   ·obtain rfl:j'=acc.length:=by simp at dH;omega
    rw [show (acc++[oY acc e0]).getD acc.length 0=oY acc e0 by simp [getD]] at hb
    obtain ⟨e,h1,h2⟩:=Wp hb
    have h0:=gP 0
    simp only [List.getElem?_cons_zero,add_zero] at h0
    refine ⟨e,by simp [getD,<-h0,h1],?_⟩
    rcases h2 with h2 | h2
    ·exact .inl h2
    ·right
     have ag0:e<acc.length:=by
      apply byContradiction
      intro cY
      have:acc.getD e 0=0:=by simp [getD,le_of_not_lt cY]
      rw [this] at h2
      simp at h2
     rw [cI _ _ _ (by simp;omega)]
     simpa [getD,getElem?_append_left ag0] using h2
theorem BS {es:List (List Nat)} {S:List Nat} (hS:uL es S) (qW:∀j e,e∈es.getD j []->e<j):∀(j i:Nat),(∀e∈es.getD j [],e∈S)->((fT es []).getD j 0).testBit i=true->i∈S:=by
 intro j
 induction j using Nat.strongRecOn with
 | _ j ih=>
  intro i he hb
  obtain ⟨e,h1,h2⟩:=aeD (es:=es) (acc:=[]) (all:=es) (λk=>by simp) (λj i hj=>by simp at hj) j i hb
  rcases h2 with rfl | h2
  ·exact he _ h1
  ·exact ih e (qW j e h1) i (λe' dD=>hS e e' (he e h1) dD) h2
end
section
section
variable {P : Program} {N : Nat}
theorem CL {l:List bQ} {F:Nat->Nat->Value} {H:Nat->ae} {V:Nat->Value} (T:Trace P l 0 F H V) {i:Nat}:∀(d:Nat),i+d<=l.length->(∀e oe,l[e]?=some oe->oe.op.op.cj=true->¬(i<=e/\e<i+d))->H (i+d)=H i
 | 0,_,_=>rfl
 | d+1,hl,hE=>by
  have ih:=CL T d (by omega) (λe oe h1 h2 h3=>hE e oe h1 h2 ⟨h3.1,by omega⟩)
  have ar:i+d<l.length:=by omega
  have bA:l[i+d]?=some l[i+d]:=getElem?_eq_getElem ar
  have AL:l[i+d].op.op.cj=false:=by
   cases hq:l[i+d].op.op.cj with
   | false=>rfl
   | true=>exact absurd ⟨by omega,by omega⟩ (hE (i+d) _ bA hq)
  rw [show i+(d+1)=i+d+1 by omega]
  rw [<-ih]
  have hy:=T.yes (i+d) _ bA
  have hn:=T.no (i+d) _ bA
  simp only [zero_add] at hy hn
  cases hw:fq l[i+d].op.guard (F (i+d)) with
  | false=>exact (hn hw).2
  | true=>
   have hs:=hy hw
   generalize l[i+d].op.op=io at hs AL
   cases io with
   | p po=>
    simp only [bY,dK] at hs
    split at hs
    ·exact hs.2.symm
    ·exact hs.elim
   | l lo=>
    simp only [bY,dK] at hs
    split at hs
    ·exact hs.2.symm
    ·exact hs.elim
   | e eo=>cases AL
   | call g args=>cases AL
   | hK x args=>cases AL
theorem lE {l:List bQ} {F:Nat->Nat->Value} {H:Nat->ae} {V:Nat->Value} (T:Trace P l 0 F H V) {i k:Nat} (AG:i<=k) (hk:k<=l.length) (hE:∀e oe,l[e]?=some oe->oe.op.op.cj=true->¬(i<=e/\e<k)):H k=H i:=by
 have:=CL T (i:=i) (k-i) (by omega) (λe oe h1 h2 h3=>hE e oe h1 h2 ⟨h3.1,by omega⟩)
 rw [show i+(k-i)=k by omega] at this
 exact this
def Dm (l:List bQ) (S:List Nat) (m:Nat):Prop:=∀e oe,l[e]?=some oe->oe.op.op.cj=true->(e∈S↔e<m)
theorem wY {l:List bQ} (h:BO l=true) {i j:Nat} {oi oj:bQ} (hi:l[i]?=some oi) (hj:l[j]?=some oj):ua oj j oi i=true:=by
 unfold BO at h
 rw [all_eq_true] at h
 have h1:=h (oj,j) (List.mem_zipIdx_iff_getElem?.2 hj)
 simp only at h1
 rw [all_eq_true] at h1
 exact h1 (oi,i) (List.mem_zipIdx_iff_getElem?.2 hi)
theorem Wi {oi oj:bQ} {i j t:Nat} (h:ua oj j oi i=true) (aU:i≠j) (hd:oi.op.dst=some t) (ht:nW oj t=true):(if i<j then oj.pre.testBit i else oi.pre.testBit j)=true:=by
 unfold ua at h
 rw [hd] at h
 simp only [and_eq_true,or_eq_true,beq_iff_eq,ht,Bool.not_true,Bool.false_eq_true,false_or] at h
 rcases h.1 with h | h
 ·exact absurd h aU
 ·exact h
theorem I7 {oi oj:bQ} {i j:Nat} (h:ua oj j oi i=true) (ar:i<j) (hi:oi.op.op.cj=true) (hj:oj.op.op.cj=true):oj.pre.testBit i=true:=by
 unfold ua at h
 simp only [and_eq_true,ar,decide_true,hi,hj,Bool.and_self,Bool.not_true,Bool.false_or] at h
 exact h.2
theorem aeQ {ops:Array Oper} {l:List bQ} {F:Nat->Nat->Value} {H:Nat->ae} {V:Nat->Value} (T:Trace P l 0 F H V) (hlen:l.length=ops.size)
  (agS:∀(k:Nat) (o:Oper) (d:bQ),ops[k]?=some o->l[k]?=some d->qK P N ops o=some d.op)
  (eL:∀k d,l[k]?=some d->d.pre=(fT (ops.toList.map dC) []).getD k 0)
  (qW:∀j e,e∈(ops.toList.map dC).getD j []->e<j) (pT:BO l=true) {S r:List Nat} (hv:qy ops S r):
  uL (ops.toList.map dC) S->(∀i∈S,i<ops.size)->∀m,m<=l.length->Dm l S m->∀S' B ρ a w,cP P N B ρ (cW V S l 0 (F 0)) (H m) a w->∀Q:Exit->Act->World->Prop,
   (∀aq a' w',cP P N B aq (F l.length) (H l.length) a' w'->Tr ρ (H m) w aq (H l.length) w'->Q .normal a' w')->wpOpsIn (FR S') 0 P ops Q r a w:=by
 induction hv with
 | nil gP=>
  rename_i S
  intro dV ar m hm dI S' B ρ a w R Q hq
  have hF:cW V S l 0 (F 0)=F l.length:=by
   have h1:=vp T l 0 (List.range l.length) l.length (λk=>by simp) (λk=>by simp) (by omega) (by omega)
   rw [<-h1]
   funext t
   refine pF (λk d hk _=>?_) rfl
   have gG:=(ba hk).1
   simp only [zero_add,mem_range]
   exact ⟨λ_=>gG,λ_=>gP k (by omega)⟩
  have hH:H l.length=H m:=by
   refine lE T hm (le_refl _) ?_
   rintro e oe he hE ⟨h1,h2⟩
   have:=(dI e oe he hE).1 (gP e (by omega))
   omega
  rw [hF] at R
  simp only [wpOpsIn]
  refine hq ρ a w (by rw [hH];exact R) ?_
  rw [hH]
  exact Tr.refl R.heap
 | cons oN oM q7 hvr ih=>
  rename_i S j o r
  intro dV ar m hm dI S' B ρ a w R Q hq
  have mB:j<ops.size:=(Array.getElem?_eq_some_iff.1 oN).1
  have bA:l[j]?=some (l[j]'(by omega)):=getElem?_eq_getElem _
  generalize hd0:l[j]'(by omega)=d at bA
  have hc:=agS j o d oN bA
  obtain ⟨q1,q2,q3,q4,q5⟩:=vf hc
  have fZ:(ops.toList.map dC).getD j []=dC o:=by
   simp [getD,oN]
  have nG:uL (ops.toList.map dC) (j::S):=by
   intro k e hk he
   rcases mem_cons.1 hk with rfl | hk
   ·rw [fZ] at he
    exact mem_cons_of_mem _ (q7 e he)
   ·exact mem_cons_of_mem _ (dV k e hk he)
  have before:∀i,d.pre.testBit i=true->i∈S:=by
   intro i hb
   rw [eL j d bA] at hb
   exact BS dV qW j i (by rw [fZ];exact q7) hb
  have behind:∀k dk,l[k]?=some dk->dk.pre.testBit j=true->k∉S:=by
   intro k dk hk hb vO
   rw [eL k dk hk] at hb
   exact oM (BS dV qW k j (λe he=>dV k e vO he) hb)
  have slot:∀t,nW d t=true->cW V S l 0 (F 0) t=F j t:=by
   intro t ht
   have h1:=vp T l 0 (List.range j) j (λk=>by simp) (λk=>by simp) (by omega) (by omega)
   rw [<-h1]
   refine pF (λk dk hk q6=>?_) rfl
   simp only [zero_add,mem_range]
   by_cases lI:k=j
   ·subst lI
    exact ⟨λh=>absurd h oM,λh=>absurd h (Nat.lt_irrefl _)⟩
   ·have hp:=Wi (wY pT hk bA) lI q6 ht
    by_cases gT:k<j
    ·rw [if_pos gT] at hp
     exact ⟨λ_=>gT,λ_=>before k hp⟩
    ·rw [if_neg gT] at hp
     exact ⟨λh=>absurd h (behind k dk hk hp),λh=>absurd h gT⟩
  have rz:∀t∈d.op.reads,cW V S l 0 (F 0) t=F j t:=λt ht=>slot t (by simp [nW,ht])
  have tA:∀t∈tmpsOf d.op.op.eO,cW V S l 0 (F 0) t=F j t:=λt ht=>rz t (by simp [ft.reads,ht])
  have wo:fq d.op.guard (cW V S l 0 (F 0))=fq d.op.guard (F j):=by
   cases hg:d.op.guard with
   | none=>rfl
   | some sb=>
    obtain ⟨s,b⟩:=sb
    simp only [fq]
    rw [rz s (by simp [ft.reads,hg])]
  have F9:mh d.op.guard (cW V S l 0 (F 0)):=by
   have:=T.FL j d bA
   simp only [zero_add] at this
   cases hg:d.op.guard with
   | none=>trivial
   | some sb=>
    obtain ⟨s,b⟩:=sb
    rw [hg] at this
    simp only [mh] at this⊢
    rw [rz s (by simp [ft.reads,hg])]
    exact this
  have wu:=xn q4 R F9
  have gf:cW V (j::S) l 0 (F 0)=ck (cW V S l 0 (F 0)) o.dst (V j):=by
   rw [<-q5]
   funext t
   by_cases mz:d.op.dst=some t
   ·have h1:=FA (V:=V) (S:=j::S) (l:=l) (i:=0) (f:=F 0) (k:=j) (d:=d) bA mz (by simp) (by
     intro k' d' bO oI gT
     have hp:=Wi (wY pT bO bA) (by omega) oI (by simp [nW,mz])
     rw [if_neg (by omega)] at hp
     have:=behind k' d' bO hp
     simp only [zero_add,mem_cons,not_or]
     exact ⟨by omega,this⟩)
    rw [h1]
    simp [mz,ck,m7]
   ·have h1:cW V (j::S) l 0 (F 0) t=cW V S l 0 (F 0) t:=by
     refine pF (λk dk hk q6=>?_) rfl
     have lI:k≠j:=by
      rintro rfl
      rw [bA] at hk
      cases hk
      exact mz q6
     simp [lI]
    rw [h1]
    cases vD:d.op.dst with
    | none=>rfl
    | some x=>
     have:t≠x:=by rintro rfl;exact mz vD
     simp [ck,m7,this]
  have dT:∀i∈j::S,i<ops.size:=by
   intro i hi
   rcases mem_cons.1 hi with rfl | hi
   ·exact mB
   ·exact ar i hi
  -- je xj,where je alg writes memory
  have xl:d.op.op.cj=true->H m=H j/\Dm l (j::S) (j+1):=by
   intro hE
   have kV:m<=j:=by
    apply byContradiction
    intro h
    exact oM ((dI j d bA hE).2 (by omega))
   refine ⟨?_,?_⟩
   ·refine (lE T kV (by omega) ?_).symm
    rintro e oe he iF ⟨h1,h2⟩
    have hb:=I7 (wY pT he bA) h2 iF hE
    have:=(dI e oe he iF).1 (before e hb)
    omega
   ·intro e oe he iF
    rcases Nat.lt_trichotomy e j with gT | rfl | Ga
    ·have hb:=I7 (wY pT he bA) gT iF hE
     exact ⟨λ_=>by omega,λ_=>mem_cons_of_mem _ (before e hb)⟩
    ·exact ⟨λ_=>by omega,λ_=>by simp⟩
    ·have hb:=I7 (wY pT bA he) Ga hE iF
     have:=behind e oe he hb
     constructor
     ·intro h
      rcases mem_cons.1 h with h | h
      ·omega
      ·exact absurd h this
     ·intro h;omega
  have uq:d.op.op.cj=false->Dm l (j::S) m:=by
   intro hE e oe he iF
   have aU:e≠j:=by
    rintro rfl
    rw [bA] at he
    cases he
    rw [hE] at iF
    cases iF
   rw [<-dI e oe he iF]
   simp [aU]
  have lg:=T.yes j d bA
  have cL:=T.no j d bA
  simp only [zero_add] at lg cL
  simp only [wpOpsIn,oN]
  by_cases hw:fq d.op.guard (F j)=true
  ·rw [if_pos (by rw [wu,wo,hw])]
   have hs:=lg hw
   by_cases hE:d.op.op.cj=true
   ·obtain ⟨e1,e2⟩:=xl hE
    rw [<-Cg tA,<-e1] at hs
    obtain ⟨v,h',st,hv,hh⟩:=rZ (N:=N) q3 q1 hs
    subst hv
    subst hh
    refine st S' B ρ a w R _ _ ?_
    intro aq v' w' oP HH TT
    have R':=R.nR q2 TT oP HH
    rw [<-gf] at R'
    exact ih nG dT (j+1) (by omega) e2 S' B aq _ w' R' Q λnh l7 gq jV nm=>hq nh l7 gq jV (TT.trans nm)
   ·have dU:d.op.op.cj=false:=by simpa using hE
    -- Ka is looked at has one value at this xj and in je arW order
    have eM:bY P d.op.op (cW V S l 0 (F 0)) (H m) λv h'=>v=V j/\h'=H m:=by
     rw [Cg tA]
     cases bX:d.op.op with
     | p po=>
      rw [bX] at hs
      simp only [bY,dK] at hs⊢
      split at hs
      ·exact ⟨hs.1,trivial⟩
      ·exact hs.elim
     | l lo=>
      have dM:dJ lo (ev (F j)) (H m)=some (V j):=by
       have tG:dJ lo (ev (F j)) (H j)=some (V j):=by
        rw [bX] at hs
        simp only [bY,dK] at hs
        split at hs
        ·rename_i v hv
         rw [hv,hs.1]
        ·exact hs.elim
       rcases Nat.le_total m j with kV | kV
       ·by_cases hex:∃e oe,l[e]?=some oe/\oe.op.op.cj=true/\m<=e/\e<j
        ·-- je least of apD
         have key:∀n,(∃e oe,l[e]?=some oe/\oe.op.op.cj=true/\m<=e/\e<j/\e<n)->∃e oe,l[e]?=some oe/\oe.op.op.cj=true/\m<=e/\e<j/\∀e' fI,l[e']?=some fI->fI.op.op.cj=true->¬(m<=e'/\e'<e):=by
          intro n
          induction n with
          | zero=>rintro ⟨e,oe,_,_,_,_,h⟩;omega
          | succ n mO=>
           rintro ⟨e,oe,h1,h2,h3,h4,h5⟩
           by_cases dX:∃e oe,l[e]?=some oe/\oe.op.op.cj=true/\m<=e/\e<j/\e<n
           ·exact mO dX
           ·refine ⟨e,oe,h1,h2,h3,h4,?_⟩
            rintro e' fI k1 k2 ⟨k3,k4⟩
            exact dX ⟨e',fI,k1,k2,k3,by omega,by omega⟩
         obtain ⟨e0,rY,g1,g2,g3,g4⟩:=hex
         obtain ⟨e,oe,h1,h2,h3,h4,h5⟩:=key j ⟨e0,rY,g1,g2,g3,g4,g4⟩
         have qU:H e=H m:=lE T h3 (by omega) (λe' fI k1 k2 k3=>h5 e' fI k1 k2 k3)
         rw [<-qU]
         have ri:d.pre.testBit e=false:=by
          cases hb:d.pre.testBit e with
          | false=>rfl
          | true=>
           have:=(dI e oe h1 h2).1 (before e hb)
           omega
         have:=T.I9 e oe j d lo h1 h2 bA bX (by simpa using hw) h4 (by simpa using ri)
         simpa using this
        ·have qV:H j=H m:=lE T kV (by omega) (λe oe h1 h2 h3=>hex ⟨e,oe,h1,h2,h3⟩)
         rw [<-qV]
         exact tG
       ·by_cases hex:∃e oe,l[e]?=some oe/\oe.op.op.cj=true/\j<=e/\e<m
        ·have key:∀n,(∃e oe,l[e]?=some oe/\oe.op.op.cj=true/\j<=e/\e<m/\m<=e+n)->∃e oe,l[e]?=some oe/\oe.op.op.cj=true/\j<=e/\e<m/\∀e' fI,l[e']?=some fI->fI.op.op.cj=true->¬(e+1<=e'/\e'<m):=by
          intro n
          induction n with
          | zero=>rintro ⟨e,oe,_,_,_,_,h⟩;omega
          | succ n mO=>
           rintro ⟨e,oe,h1,h2,h3,h4,h5⟩
           by_cases dX:∃e oe,l[e]?=some oe/\oe.op.op.cj=true/\j<=e/\e<m/\m<=e+n
           ·exact mO dX
           ·refine ⟨e,oe,h1,h2,h3,h4,?_⟩
            rintro e' fI k1 k2 ⟨k3,k4⟩
            exact dX ⟨e',fI,k1,k2,by omega,by omega,by omega⟩
         obtain ⟨e0,rY,g1,g2,g3,g4⟩:=hex
         obtain ⟨e,oe,h1,h2,h3,h4,h5⟩:=key m ⟨e0,rY,g1,g2,g3,g4,by omega⟩
         have aU:e≠j:=by
          rintro rfl
          rw [bA] at h1
          cases h1
          rw [dU] at h2
          cases h2
         have qU:H m=H (e+1):=lE T (by omega) hm (λe' fI k1 k2 k3=>h5 e' fI k1 k2 k3)
         rw [qU]
         have ri:oe.pre.testBit j=false:=by
          cases hb:oe.pre.testBit j with
          | false=>rfl
          | true=>exact absurd ((dI e oe h1 h2).2 h4) (behind e oe h1 hb)
         have:=T.FB j d lo e oe bA bX (by simpa using hw) h1 h2 (by omega) (by simpa using ri)
         simpa using this
        ·have qV:H m=H j:=lE T kV hm (λe oe h1 h2 h3=>hex ⟨e,oe,h1,h2,h3⟩)
         rw [qV]
         exact tG
      simp [bY,dK,dM]
     | e eo=>rw [bX] at dU;cases dU
     | call g args=>rw [bX] at dU;cases dU
     | hK x args=>rw [bX] at dU;cases dU
    obtain ⟨v,h',st,hv,hh⟩:=rZ (N:=N) q3 q1 eM
    subst hv
    subst hh
    refine st S' B ρ a w R _ _ ?_
    intro aq v' w' oP HH TT
    have R':=R.nR q2 TT oP HH
    rw [<-gf] at R'
    exact ih nG dT m hm (uq dU) S' B aq _ w' R' Q λnh l7 gq jV nm=>hq nh l7 gq jV (TT.trans nm)
  ·have rD:fq d.op.guard (F j)=false:=by simpa using hw
   rw [if_neg (by rw [wu,wo,rD];simp)]
   obtain ⟨n1,n2⟩:=cL rD
   have R':=R.nR q2 (Tr.refl R.heap) (au.undef _) R.heap
   rw [n1] at gf
   rw [<-gf] at R'
   by_cases hE:d.op.op.cj=true
   ·obtain ⟨e1,e2⟩:=xl hE
    have e3:H (j+1)=H m:=by rw [n2,e1]
    exact ⟨λ_ _=>trivial,ih nG dT (j+1) (by omega) e2 S' B ρ _ w (by rw [e3];exact R') Q λnh l7 gq jV nm=>hq nh l7 gq jV (by rw [e3] at nm;exact nm)⟩
   ·exact ⟨λ_ _=>trivial,ih nG dT m hm (uq (by simpa using hE)) S' B ρ _ w R' Q hq⟩
theorem Lc:∀{ios:List ft} {ps:List Nat},ios.length<=ps.length->(jS ios ps).length=ios.length/\∀(k:Nat) (d:bQ),(jS ios ps)[k]?=some d->ios[k]?=some d.op/\d.pre=ps.getD k 0
 | [],ps,_=>⟨by simp [jS],λk d h=>by simp [jS] at h⟩
 | o::ios,[],h=>by simp at h
 | o::ios,p::ps,h=>by
  obtain ⟨h1,h2⟩:=Lc (ios:=ios) (ps:=ps) (by simpa using h)
  refine ⟨by simp [jS,h1],?_⟩
  intro k d hk
  cases k with
  | zero=>simp [jS] at hk;subst hk;simp
  | succ k=>
   simp only [jS,List.getElem?_cons_succ] at hk
   obtain ⟨a,b⟩:=h2 k d hk
   exact ⟨by simpa using a,by simpa [getD] using b⟩
theorem zQ:∀(es:List (List Nat)) (acc:List Nat),(fT es acc).length=acc.length+es.length
 | [],acc=>by simp [fT]
 | e::es,acc=>by simp only [fT];rw [zQ];simp;omega
theorem E6 {ops:Array Oper}:∀{os:List Oper} {l:List ft},iq P N ops os=some l->l.length=os.length/\∀(k:Nat) (o:Oper) (x:ft),os[k]?=some o->l[k]?=some x->qK P N ops o=some x
 | [],l,h=>by
  simp [iq] at h
  subst h
  exact ⟨rfl,λk o x hk=>by simp at hk⟩
 | o::os,l,h=>by
  obtain ⟨x,xs,h1,h2,rfl⟩:=om h
  obtain ⟨e1,e2⟩:=E6 h2
  refine ⟨by simp [e1],?_⟩
  intro k o' x' hk hx
  cases k with
  | zero=>simp at hk hx;subst hk;subst hx;exact h1
  | succ k=>exact e2 k o' x' (by simpa using hk) (by simpa using hx)
theorem aiO {out:Bool} {id:Nat} {ops:Array Oper} {l:List bQ} {K:(Nat->Value)->ae->Prop} {f:Nat->Value} {h:ae} (hc:E3 P N ops=some l) (hi:hT P l 0 [] [] K f h):
  ∃f' h',eB P N out (.region id ops true) f h .normal f' h'/\K f' h':=by
 unfold E3 at hc
 split at hc
 ·rename_i ios Gc
  split at hc
  ·rename_i my
   simp at hc
   simp only [and_eq_true] at my
   obtain ⟨⟨vR,mu⟩,pT⟩:=my
   rw [hc] at pT
   obtain ⟨g1,g2⟩:=E6 Gc
   have Gf:ios.length<=(fT (ops.toList.map dC) []).length:=by rw [zQ];simp [g1]
   obtain ⟨z1,z2⟩:=Lc Gf
   rw [hc] at z1 z2
   have hlen:l.length=ops.size:=by rw [z1,g1];simp
   obtain ⟨F,H,V,f1,f2,f3,T,_,_⟩:=GO hi
   simp only [zero_add] at f3
   refine ⟨F l.length,H l.length,?_,f3⟩
   ·intro S hS B ρ a w R
    refine wpIn_region_draw ?_
    intro t
    have Gw:Region.schedule (P.follows .mixedOrders) ops t=Region.linearise .any ops t:=by
     unfold Region.schedule
     rw [vR]
     simp
    rw [Gw]
    have dM:=Sm mu t
    have qW:∀j e,e∈(ops.toList.map dC).getD j []->e<j:=by
     intro j e he
     by_cases hj:j<ops.size
     ·have hg:ops.toList[j]?=some ops[j]:=by simp [hj]
      have:(ops.toList.map dC).getD j []=dC ops[j]:=by simp [getD,hj]
      rw [this] at he
      have:=yX mu j ops[j] hg e he
      omega
     ·have:(ops.toList.map dC).getD j []=[]:=by simp [getD,le_of_not_lt hj]
      rw [this] at he
      simp at he
    have vS:∀(l:List bQ) (i:Nat) (f:Nat->Value),cW V [] l i f=f:=by
     intro l
     induction l with
     | nil=>intro i f;rfl
     | cons a l ih=>intro i f;simp [cW,ih]
    have R1:cP P N B ρ (cW V [] l 0 (F 0)) (H 0) a { w with drawn:=w.drawn+1 }:=by
     rw [vS,f1,f2]
     exact R.mono (Tr.drew R.heap _) (R.heap.drew _)
    refine aeQ T hlen ?_ ?_ qW pT dM (λj e hj=>by simp at hj) (λi hi=>by simp at hi) 0 (by omega) (λe oe _ _=>by simp) S B ρ a _ R1 _ ?_
    ·intro k o d hk hd
     exact g2 k o d.op (by simpa using hk) (z2 k d hd).1
    ·intro k d hd
     exact (z2 k d hd).2
    ·intro aq a' w' R' T'
     refine ⟨rfl,aq,R',?_⟩
     have T0:=Tr.drew R.heap (w.drawn+1)
     rw [f2] at T'
     exact T0.trans T'
  ·cases hc
 ·cases hc
end
end
section
section
variable {P : Program} {w : World} {ρ : aD} {h : ae}
theorem aL.alloc (H:aL P ρ h w) (b:Obj):aL P ρ h (w.alloc b)/\Tr ρ h w ρ h (w.alloc b):=by
 have nb:=fV.alloc w b
 refine ⟨⟨?_,H.inj,H.aT⟩,?_⟩
 ·intro i r hi
  obtain ⟨o,ho,hr⟩:=H.obj i r hi
  refine ⟨o,ho,?_⟩
  by_cases hd:o=.dead
  ·subst hd;trivial
  ·exact hr.mono (.refl _) (nb.old (tW H hi ⟨o,ho,hd⟩))
 ·exact {
   ext:=.refl _
   len:=le_refl _
   fK:=λi r hi=>H.lt hi
   kinds:=λi _ hm=>hm
   fresh:=λi s h1 h2=>by rw [h1] at h2;cases h2
   eP:=by rw [nb.size];omega
   ey:=λk hk _=>nb.old hk
   os:=nb.os
   tape:=nb.tape
   output:=nb.output }
theorem r7 {l k:Nat} {o:Obj} (hk:k≠l):(w.putObj l o).heap[k]?=w.heap[k]?:=World.putObj_heap_other hk
theorem aL.put (H:aL P ρ h w) {l:Nat} (cL:∀j s,ρ j=some s->s.aY=l->¬cZ h j) (o:Obj):aL P ρ h (w.putObj l o):=by
 refine ⟨?_,H.inj,H.aT⟩
 intro i r hi
 obtain ⟨o',ho,hr⟩:=H.obj i r hi
 refine ⟨o',ho,?_⟩
 by_cases hd:o'=.dead
 ·subst hd;trivial
 ·refine hr.mono (.refl _) (r7 ?_)
  intro e
  exact cL i r hi e ⟨o',ho,hd⟩
theorem aL.R8 (H:aL P ρ h w) {l:Nat} {rec:Loop} (hl:w.heap[l]?=some (.loop rec)) {j:Nat} {s:RI} (hj:ρ j=some s) (hs:s.aY=l) (hv:cZ h j):∃c ls vs,h[j]?=some (.loop c ls vs):=by
 obtain ⟨o,ho,aU⟩:=hv
 obtain ⟨o',cr,hr⟩:=H.obj j s hj
 rw [ho] at cr
 cases cr
 subst hs
 cases o with
 | ro e xs=>obtain ⟨_,c,_,fr,h2,_⟩:=hr;rw [hl] at h2;cases h2
 | arr e xs=>obtain ⟨_,_,c,h2,_⟩:=hr;rw [hl] at h2;cases h2
 | smap es=>obtain ⟨aG,clock,h1,_⟩:=hr;rw [hl] at h1;cases h1
 | iK kd es=>obtain ⟨aG,clock,h1,_⟩:=hr;rw [hl] at h1;cases h1
 | cp g c es=>obtain ⟨_,aG,h1,_⟩:=hr;rw [hl] at h1;cases h1
 | iter m s n l=>obtain ⟨_,rm,_,h1⟩:=hr;rw [hl] at h1;cases h1
 | loop c ls vs=>exact ⟨c,ls,vs,ho⟩
 | dead=>exact absurd rfl aU
theorem Tr.late {aq:aD} {h':ae} {w':World} (T:Tr ρ h w aq h' w') {l:Nat} (hl:w.heap.size<=l) (o:Obj) (i:Nat):Tr ρ h w aq (h'.set i .dead) (w'.putObj l o) where
 ext:=T.ext
 len:=by simpa using T.len
 fK:=T.fK
 kinds:=by
  intro j hj hm
  refine T.kinds j hj ?_
  by_cases e:j=i
  ·subst e
   have ar:j<h'.length:=Nat.lt_of_lt_of_le hj T.len
   unfold bH at hm
   rw [getElem?_set_self ar] at hm
   rcases hm with ⟨_,_,h1⟩ | ⟨_,h1⟩ | ⟨_,_,_,h1⟩ | ⟨_,_,h1⟩ | ⟨_,_,_,h1⟩ | ⟨_,_,_,_,h1⟩ <;> cases h1
  ·unfold bH at hm⊢
   rw [getElem?_set_ne (Ne.symm e)] at hm
   exact hm
 fresh:=T.fresh
 eP:=by rw [World.putObj_size];exact T.eP
 ey:=λk hk cL=>by rw [r7 (by omega)];exact T.ey k hk cL
 os:=T.os
 tape:=T.tape
 output:=T.output
theorem aL.kill (H:aL P ρ h w) (i:Nat):aL P ρ (h.set i .dead) w:=by
 have hm:∀j,bH (h.set i .dead) j->bH h j:=by
  intro j hj
  by_cases e:j=i
  ·subst e
   unfold bH at hj
   by_cases ar:j<h.length
   ·rw [getElem?_set_self ar] at hj
    rcases hj with ⟨_,_,h1⟩ | ⟨_,h1⟩ | ⟨_,_,_,h1⟩ | ⟨_,_,h1⟩ | ⟨_,_,_,h1⟩ | ⟨_,_,_,_,h1⟩ <;> cases h1
   ·rw [getElem?_eq_none (by simpa using le_of_not_lt ar)] at hj
    rcases hj with ⟨_,_,h1⟩ | ⟨_,h1⟩ | ⟨_,_,_,h1⟩ | ⟨_,_,h1⟩ | ⟨_,_,_,h1⟩ | ⟨_,_,_,_,h1⟩ <;> cases h1
  ·unfold bH at hj⊢
   rw [getElem?_set_ne (Ne.symm e)] at hj
   exact hj
 have hl:∀j,cZ (h.set i .dead) j->cZ h j:=by
  intro j hj
  by_cases e:j=i
  ·subst e
   obtain ⟨o,ho,aU⟩:=hj
   by_cases ar:j<h.length
   ·rw [getElem?_set_self ar] at ho
    cases ho
    exact absurd rfl aU
   ·rw [getElem?_eq_none (by simpa using le_of_not_lt ar)] at ho
    cases ho
  ·unfold cZ at hj⊢
   rw [getElem?_set_ne (Ne.symm e)] at hj
   exact hj
 refine ⟨?_,λa b r s ha hb iZ h1 h2=>H.inj a b r s ha hb iZ (hm a h1) (hl b h2),H.aT⟩
 intro j r hj
 by_cases e:j=i
 ·subst e
  exact ⟨.dead,by rw [getElem?_set_self (H.lt hj)],trivial⟩
 ·obtain ⟨o,ho,hr⟩:=H.obj j r hj
  exact ⟨o,by rw [getElem?_set_ne (Ne.symm e)];exact ho,hr⟩
theorem ao8 {g:FuncId} {first cap:Array Value} (iY:nu P g=true) (a:Act) (gx:Operand) (hy:a.eval gx=.func (.func g) first cap) (l:Nat) (w:World):
  ∃d,(resolve a.eval (rangeCall gx l) 0).run P w=.ok d w/\(invoke d.target d.args).run P w=.ok (.enter g (first++#[.func (.yield l) #[] #[]]++cap)) w:=by
 refine ⟨_,by simp [resolve,hy,Deferred.ofValue];rfl,?_⟩
 simp [invoke,EY iY,Act.eval]
theorem W9 {N:Nat} {g:Operand} {ps:Array Tmp} {gE body:Code} {ls:List Nat} {K:ae->Prop} {f:Nat->Value} (aC:fP g=true)
  (hi:nT P (ev f g) ls (ls.map f) ⟨N,ps,gE,body⟩ h K):∃h',eB P N true (.rangeFunc g ps gE body) f h .normal f h'/\K h':=by
 unfold nT at hi
 split at hi
 ·rename_i F first cap hx
  obtain ⟨iY,v,h',oG,⟨c',Sr,fU,bA⟩,hk⟩:=hi
  refine ⟨_,?_,hk⟩
  intro S hS B ρ a w R
  obtain rfl:=hS rfl
  refine wpIn_rangeFunc λfn _=>?_
  obtain ⟨H0,T0⟩:=R.heap.alloc (.deferred (some []))
  have jK:(w.alloc (.deferred (some []))).heap.size=w.heap.size+1:=World.size_alloc _ _
  have nb:=fV.alloc (w.alloc (.deferred (some []))) (.loop { state:=.ready,pending:=none,fn,tmps:=a.tmps,params:=ps,assign:=gE,body,defers:=w.heap.size })
  obtain ⟨H1,T1⟩:=H0.new (h₀:=h) (o:=.loop ⟨N,ps,gE,body⟩ ls (ls.map f)) (r:=⟨w.heap.size+1,0,0,P.cellsOf 0,0⟩) nb jK.symm rfl rfl (λ_=>.inl rfl)
   ⟨_,by rw [<-jK];exact nb.new,rfl,rfl,rfl,rfl,rfl,R.size,λt=>by
    rcases wL f ls t with e | e
    ·rw [e];exact (R.tmp t).mono (aD.oV R.heap.none)
    ·rw [e];exact .any _⟩
  have hr:=R.ev aC
  rw [hx] at hr
  generalize hy:a.eval g=y at hr
  cases hr with
  | func _ s1 s2 r1 r2=>
   rename_i Fv EZ
   obtain ⟨d,ah9,ahk⟩:=ao8 (w:=((w.alloc (.deferred (some []))).alloc (.loop { state:=.ready,pending:=none,fn,tmps:=a.tmps,params:=ps,assign:=gE,body,defers:=w.heap.size }))) iY a g hy (w.heap.size+1)
   refine ⟨_,_,_,d,_,F,_,_,run_enterLoop_outer fn a.tmps ps gE body,ah9,λ_ _=>trivial,ahk,λh=>(by cases h),?_⟩
   have hle:=aD.oV (r:=⟨w.heap.size+1,0,0,P.cellsOf 0,0⟩) R.heap.none
   have mj:bg (ρ.add h.length ⟨w.heap.size+1,0,0,P.cellsOf 0,0⟩) (first.toList++[.func (.yield h.length) #[] #[]]++cap.toList) (Fv++#[Value.func (.yield (w.heap.size+1)) #[] #[]]++EZ).toList:=by
    have q1:=(bg.m6 s1 r1).mono hle
    have q3:=(bg.m6 s2 r2).mono hle
    have q2:bg (ρ.add h.length ⟨w.heap.size+1,0,0,P.cellsOf 0,0⟩) [.func (.yield h.length) #[] #[]] [.func (.yield (w.heap.size+1)) #[] #[]]:=
     .cons (au.yield (i:=h.length) (r:=⟨w.heap.size+1,0,0,P.cellsOf 0,0⟩) (by simp [aD.add])) .nil
    simpa using (q1.append q2).append q3
   refine (PR (oG _ _ _ mj H1) none _).mono ?_
   rintro e w3 ⟨v',aq,rfl,hv,H3,T3⟩
   have GF:aq h.length=some ⟨w.heap.size+1,0,0,P.cellsOf 0,0⟩:=T3.ext _ _ (by simp [aD.add])
   obtain ⟨o,ho,rr⟩:=H3.obj _ _ GF
   rw [bA] at ho
   cases ho
   obtain ⟨rec,g1,g2,g3,g4,g5,g6,g7,g8⟩:=rr
   have ek:=run_endLoop (P:=P) g1 (by rw [g2];decide)
   refine ⟨_,_,ek,?_⟩
   split
   rotate_left
   ·rename_i c hc;rw [g3] at hc;cases hc
   have TT:=(T0.trans (T1.trans T3))
   have Hk:=H3.kill h.length
   have ahV:aL P aq (h'.set h.length .dead) (w3.putObj (w.heap.size+1) (.loop { rec with state:=.exhausted })):=by
    refine Hk.put ?_ _
    intro j s hj hs oK
    obtain ⟨c,_,_,hc⟩:=Hk.R8 g1 hj hs oK
    have aU:j≠h.length:=by
     rintro rfl
     rw [getElem?_set_self (H3.lt GF)] at hc
     cases hc
    rw [getElem?_set_ne (Ne.symm aU)] at hc
    exact aU (H3.inj _ _ _ _ hj GF hs (.inr (.inr (.inl ⟨_,_,_,hc⟩))) ⟨_,bA,by simp⟩)
   have TL:=TT.late (l:=w.heap.size+1) (by omega) (.loop { rec with state:=.exhausted }) h.length
   refine ⟨rfl,aq,⟨R.size,?_,λt=>(R.tmp t).mono TL.ext,ahV⟩,TL⟩
   have hD:(w3.putObj (w.heap.size+1) (.loop { rec with state:=.exhausted })).heap[w.heap.size]?=some (.deferred (some [])):=by
    rw [r7 (by omega)]
    have e1:(w.alloc (.deferred (some []))).heap[w.heap.size]?=some (.deferred (some [])):=World.alloc_heap_new _ _
    have e2:=nb.old (k:=w.heap.size) (by omega)
    rw [T3.ey _ (by rw [nb.size];omega) ?_,e2,e1]
    intro j s hj hs hm
    exact H1.Hx (e2.trans e1) hj hs hm.live
   refine ⟨⟨w.heap.size,rfl,marks.base R.defers,hD,?_⟩,marks.tr R.heap TL R.defers⟩
   intro d' oI he
   obtain ⟨D,e1,e2⟩:=marks.lt R.defers d' oI
   rw [e1] at he
   have:=Sy he
   omega
 ·exact hi.elim
end
end
section
section
variable {P : Program} {N : Nat}
theorem abS {a:iT} {g g':Operand->Value} (h:∀x∈a.eO,g x=g' x):ie a g=ie a g':=by
 cases a with
 | alloc e zs=>rfl
 | ju e n zs ps=>
  simp only [ie]
  rw [BP (ps:=ps) h]
 | make e b zs l c=>
  simp only [iT.eO,mem_cons,List.not_mem_nil,or_false,forall_eq_or_imp,forall_eq] at h
  simp only [ie,h.1,h.2]
 | kf g=>rfl
theorem abT {a:iT} {g:Operand->Value} {V:Nat->Value} {o:ax} (h:ie a g=some (V,o)) {ρ aq:aD} {i j:Nat} {v':Value} (e:aq j=ρ i) (hv:au ρ (V i) v'):au aq (V j) v':=by
 have ptr:V=(λi=>.pointer (some ⟨i,0,none⟩))->au aq (V j) v':=by
  rintro rfl
  cases hv with
  | ptr hr=>exact .ptr (by rw [e];exact hr)
 have XN:∀t n,V=(λi=>sl t i 0 n)->au aq (V j) v':=by
  rintro t n rfl
  cases hv with
  | slice hr a b c d=>exact .slice (by rw [e];exact hr) a b c d
 have mp:V=(λi=>.map (some i))->au aq (V j) v':=by
  rintro rfl
  cases hv with
  | map hr=>exact .map (by rw [e];exact hr)
 cases a with
 | kf g=>simp [ie] at h;exact mp h.1.symm
 | alloc t zs=>simp [ie] at h;exact ptr h.1.symm
 | ju t n zs ps=>simp only [ie,map_eq_some_iff,Prod.mk.injEq] at h;obtain ⟨_,_,h1,_⟩:=h;exact XN t n h1.symm
 | make t b zs l c=>
  simp only [ie] at h
  split at h
  ·split at h
   ·simp at h;exact XN t _ h.1.symm
   ·cases h
  ·cases h
theorem Ff {i:Nat} {o:ax} {u:Value} (h:jY i o=some u):(∃e xs,o=.arr e xs/\(∀x∈xs,gY i x=true)/\u=.agg (.int .i64 e::xs).toArray)∨∃g,o=.cp g 0 []/\u=.tuple #[vq g]:=by
 unfold jY at h
 split at h
 ·rename_i e xs
  split at h
  ·rename_i hx
   rw [all_eq_true] at hx
   injection h with h
   exact .inl ⟨e,xs,rfl,hx,h.symm⟩
  ·cases h
 ·rename_i g c es
  split at h
  ·rename_i hc
   obtain ⟨rfl,hc⟩:=hc
   rw [List.isEmpty_iff] at hc
   subst hc
   injection h with h
   exact .inr ⟨g,rfl,h.symm⟩
  ·cases h
 ·cases h
theorem agi {g g':dZ} (h:vq g=vq g'):g=g':=by
 cases g <;> cases g' <;> simp [vq] at h <;> first | rfl | (subst h;rfl) | (obtain ⟨rfl,h⟩:=h;rw [Int.ofNat.inj h]) | (have:=Int.ofNat.inj h.2;rw [h.1,this])
theorem afU {i:Nat} {o o':ax} {u:Value} (h:jY i o=some u) (h':jY i o'=some u):o=o':=by
 rcases Ff h with ⟨e,xs,rfl,_,h1⟩ | ⟨g,rfl,h1⟩ <;> rcases Ff h' with ⟨e',dv,rfl,_,h2⟩ | ⟨g',rfl,h2⟩
 ·rw [h1] at h2
  simp at h2
  obtain ⟨h3,h4⟩:=h2
  have h3':e=e':=Int.ofNat.inj h3
  rw [h3',h4]
 ·rw [h1] at h2;cases h2
 ·rw [h1] at h2;cases h2
 ·rw [h1] at h2
  simp at h2
  rw [agi h2]
theorem gY.rel {ρ aq:aD} {i:Nat} {v v':Value} (h:gY i v=true) (hle:∀k,k<i->∀r,ρ k=some r->aq k=some r) (hv:au ρ v v'):au aq v v':=by
 unfold gY at h
 rw [or_eq_true] at h
 rcases h with h | h
 ·exact wI.rel h hv
 ·split at h
  ·have hk:=of_decide_eq_true h
   cases hv with
   | slice hr a b c d=>exact .slice (hle _ hk _ hr) a b c d
  ·cases h
theorem iN.gY {ρ aq:aD} {w:World} {r:RI} {o:ax} {i:Nat} (hx:(jY i o).isSome=true) (hle:∀k,k<i->∀r,ρ k=some r->aq k=some r) (h:iN ρ w r o):iN aq w r o:=by
 obtain ⟨u,hu⟩:=Option.isSome_iff_exists.1 hx
 rcases Ff hu with ⟨e,xs,rfl,hx,_⟩ | ⟨g,rfl,_⟩
 ·obtain ⟨h1,h0,c,h2,h3,h4⟩:=h
  refine ⟨h1,h0,c,h2,h3,λj x hj=>?_⟩
  obtain ⟨c1,y,hy,hr⟩:=h4 j x hj
  exact ⟨c1,y,hy,Go.Sim.gY.rel (hx x (List.mem_of_getElem? hj)) hle hr⟩
 ·obtain ⟨h0,aG,h1,h2,h3⟩:=h
  exact ⟨h0,aG,h1,h2,λj b k v hj=>by simp at hj⟩
theorem aL.take {ρ aq:aD} {h:ae} {w w':World} {o:ax} {p:Nat} (R:aL P ρ h w) (hp:h[p]?=some o) (hx:(jY p o).isSome=true) (hn:ρ p=Option.none)
  (H':aL P aq (h++[o]) w') (T:Tr ρ h w aq (h++[o]) w'):aL P (λk=>if k=p then aq h.length else ρ k) h w':=by
 have j5:=(ba hp).1
 have new:(h++[o])[h.length]?=some o:=by simp
 have old:∀k,k<h.length->(h++[o])[k]?=h[k]?:=λk hk=>getElem?_append_left hk
 have hle:ρ.le λk=>if k=p then aq h.length else ρ k:=by
  intro k r hr
  have:k≠p:=by rintro rfl;rw [hn] at hr;cases hr
  simp [this,hr]
 have mt:∀k,k<h.length->(bH h k↔bH (h++[o]) k):=λk hk=>by unfold bH;rw [old k hk]
 have tT:∀k,k<h.length->(cZ h k↔cZ (h++[o]) k):=λk hk=>by unfold cZ;rw [old k hk]
 have back:∀k,k<p->∀r,aq k=some r->(λk=>if k=p then aq h.length else ρ k) k=some r:=by
  intro k hk r hr
  have aU:k≠p:=by omega
  simp only [if_neg aU]
  cases hq:ρ k with
  | none=>
   have:=(T.fresh k r hr hq).1
   omega
  | some r'=>
   have:=T.ext k r' hq
   rw [hr] at this
   exact this.symm
 have akO:bH h p↔bH (h++[o]) h.length:=by unfold bH;rw [new,hp]
 have akv:cZ h p↔cZ (h++[o]) h.length:=by unfold cZ;rw [new,hp]
 refine ⟨?_,?_,?_⟩
 ·intro k r hr
  by_cases hk:k=p
  ·subst hk
   simp only [if_true] at hr
   obtain ⟨o',cr,jm⟩:=H'.obj _ r hr
   rw [new] at cr
   cases cr
   exact ⟨_,hp,iN.gY hx back jm⟩
  ·simp only [if_neg hk] at hr
   obtain ⟨o',cr,jm⟩:=R.obj k r hr
   obtain ⟨o2,pS,vV⟩:=H'.obj k r (T.ext k r hr)
   rw [old k (R.lt hr),cr] at pS
   cases pS
   exact ⟨o',cr,(jm.down T.ext vV).mono hle rfl⟩
 ·intro a b r s ha hb iZ hm hl
  by_cases ea:a=p <;> by_cases eb:b=p
  ·omega
  ·subst ea
   simp only [if_true] at ha
   simp only [if_neg eb] at hb
   have mw:=R.lt hb
   have:=H'.inj h.length b r s ha (T.ext b s hb) iZ (akO.1 hm) ((tT b mw).1 hl)
   omega
  ·subst eb
   simp only [if_true] at hb
   simp only [if_neg ea] at ha
   have mi:=R.lt ha
   have:=H'.inj a h.length r s (T.ext a r ha) hb iZ ((mt a mi).1 hm) (akv.1 hl)
   omega
  ·simp only [if_neg ea] at ha
   simp only [if_neg eb] at hb
   exact H'.inj a b r s (T.ext a r ha) (T.ext b s hb) iZ ((mt a (R.lt ha)).1 hm) ((tT b (R.lt hb)).1 hl)
 ·intro k r hr
  by_cases hk:k=p
  ·subst hk;simp only [if_true] at hr;exact H'.aT _ r hr
  ·simp only [if_neg hk] at hr;exact R.aT k r hr
theorem Tr.take {sD ρ aq:aD} {hb h:ae} {wb w w':World} {o:ax} {p:Nat} (TB:Tr sD hb wb ρ h w) (hpb:hb.length<=p) (hn:ρ p=Option.none) (T:Tr ρ h w aq (h++[o]) w'):
  Tr sD hb wb (λk=>if k=p then aq h.length else ρ k) h w':=by
 have TT:=TB.trans T
 exact {
  ext:=by
   intro k r hr
   have:=TB.ext k r hr
   have hk:k≠p:=by rintro rfl;rw [hn] at this;cases this
   simp [hk,this]
  len:=TB.len
  fK:=TB.fK
  kinds:=TB.kinds
  fresh:=by
   intro k r hr Gd
   by_cases hk:k=p
   ·subst hk
    simp only [if_true] at hr
    have hbn:sD h.length=none:=by
     cases hq:sD h.length with
     | none=>rfl
     | some q=>have:=TB.fK _ _ hq;have:=TB.len;omega
    exact ⟨hpb,(TT.fresh _ r hr hbn).2⟩
   ·simp only [if_neg hk] at hr
    exact TB.fresh k r hr Gd
  eP:=TT.eP
  ey:=TT.ey
  os:=TT.os
  tape:=TT.tape
  output:=TT.output }
theorem sY {l:List bQ} {F:Nat->Nat->Value} {H:Nat->ae} {V:Nat->Value} (T:Trace P l 0 F H V) {q:Nat} {d:bQ} {a:iT} (hq:l[q]?=some d) (ho:d.op.op=.e (.fl a)) (hg:d.op.guard=none):
  ∃Vf o,ie a (ev (F q))=some (Vf,o)/\V q=Vf (H q).length/\H (q+1)=H q++[o]/\(jY (H q).length o).isSome=true/\cF (H (q+1)) (V q)=jY (H q).length o/\
   ∀e' oe,l[e']?=some oe->oe.op.op.cj=true->q<e'->oe.pre.testBit q=false->cF (H (e'+1)) (V q)=jY (H q).length o:=by
 have hw:fq d.op.guard (F (0+q))=true:=by rw [hg];rfl
 have hy:=T.yes q d hq hw
 obtain ⟨u,u1,u2⟩:=T.Qk q d a hq ho hw
 simp only [zero_add] at hy u1 u2
 rw [ho] at hy
 simp only [bY,jc,RQ] at hy
 cases mi:ie a (ev (F q)) with
 | none=>rw [mi] at hy;exact hy.elim
 | some p=>
  obtain ⟨Vf,o⟩:=p
  rw [mi] at hy
  simp only [map_some] at hy
  obtain ⟨h1,h2⟩:=hy
  have fL:=El mi (H q).length
  rw [h1] at fL
  have vI:cF (H (q+1)) (V q)=jY (H q).length o:=by
   unfold cF
   rw [fL,<-h2]
   simp
  rw [vI] at u1
  exact ⟨Vf,o,rfl,h1.symm,h2.symm,by rw [u1];rfl,vI,λe' oe he hE ar hp=>(u2 e' oe he hE ar hp).trans u1.symm⟩
def Dn (l:List bQ) (S:List Nat) (m:Nat):Prop:=∀e oe,l[e]?=some oe->oe.op.op.cj=true->fm oe=false->(e∈S↔e<m)
theorem rL {o:bQ}:fm o=true↔∃a,o.op.op=.e (.fl a):=by
 unfold fm
 constructor
 ·intro h
  split at h
  ·rename_i a ha;exact ⟨a,ha⟩
  ·cases h
 ·rintro ⟨a,ha⟩;rw [ha]
structure Laid (P:Program) (N:Nat) (ops:Array Oper) (l:List bQ) (perm:Nat->Nat) (mF:Nat):Prop where
 len:l.length=ops.size
 lt:∀q,q<ops.size->perm q<ops.size
 inj:∀q k,q<ops.size->k<ops.size->perm q=perm k->q=k
 sur:∀j,j<ops.size->∃q,q<ops.size/\perm q=j
 comp:∀q o d,ops[perm q]?=some o->l[q]?=some d->∃x,qK P N ops o=some x/\x.dst=d.op.dst/\x.guard=d.op.guard/\tmpsOf x.op.eO=tmpsOf d.op.op.eO/\((fm d=false/\x.op=d.op.op)∨∃a,x.op=.e a.Ck/\d.op.op=.e (.fl a)/\d.op.guard=none)
 pre:∀q d,l[q]?=some d->∀k,k<ops.size->d.pre.testBit k=((fT (ops.toList.map dC) []).getD (perm q) 0).testBit (perm k)
 back:∀j e,e∈(ops.toList.map dC).getD j []->e<j
 wX:∀i j oi oj,l[i]?=some oi->l[j]?=some oj->ub oj j oi i=true
 head:mF<=l.length
 low:∀q d,l[q]?=some d->q<mF->d.op.op.cj=true->fm d=true
 high:∀q d,l[q]?=some d->mF<=q->fm d=false
theorem Wh {oi oj:bQ} {i j t:Nat} (h:ub oj j oi i=true) (aU:i≠j) (hd:oi.op.dst=some t) (ht:nW oj t=true):(if i<j then oj.pre.testBit i else oi.pre.testBit j)=true:=by
 unfold ub at h
 rw [hd] at h
 simp only [and_eq_true,or_eq_true,beq_iff_eq,ht,Bool.not_true,Bool.false_eq_true,false_or] at h
 rcases h.1 with h | h
 ·exact absurd h aU
 ·exact h
theorem I6 {oi oj:bQ} {i j:Nat} (h:ub oj j oi i=true) (ar:i<j) (hi:oi.op.op.cj=true) (hj:oj.op.op.cj=true) (fi:fm oi=false) (fj:fm oj=false):oj.pre.testBit i=true:=by
 unfold ub at h
 simp only [and_eq_true,ar,decide_true,hi,hj,fi,fj,Bool.and_self,Bool.not_true,Bool.not_false,Bool.false_or] at h
 exact h.2
theorem pN {ops:Array Oper} {l:List bQ} {perm:Nat->Nat} {mF:Nat} (L:Laid P N ops l perm mF) (jk:∀(q:Nat) (d:bQ),l[q]?=some d->fm d=true->d.op.guard=none) {F:Nat->Nat->Value} {H:Nat->ae} {V:Nat->Value} (T:Trace P l 0 F H V) {k:Nat}:∀(d:Nat),k+d<=mF->∃os,H (k+d)=H k++os
 | 0,_=>⟨[],by simp⟩
 | d+1,hd=>by
  obtain ⟨os,fN⟩:=pN L jk T (k:=k) d (by omega)
  have ar:k+d<l.length:=by have:=L.head;omega
  have bA:l[k+d]?=some l[k+d]:=getElem?_eq_getElem ar
  rw [show k+(d+1)=k+d+1 by omega]
  cases hE:l[k+d].op.op.cj with
  | true=>
   have hf:=L.low (k+d) _ bA (by omega) hE
   obtain ⟨a,ha⟩:=rL.1 hf
   obtain ⟨_,oo,_,_,h3,_⟩:=sY T bA ha (jk _ _ bA hf)
   exact ⟨os++[oo],by rw [h3,fN];simp⟩
  | false=>
   have:=CL T (i:=k+d) 1 (by omega) (λe oe h1 h2 h3=>by
    have:e=k+d:=by omega
    subst this
    rw [bA] at h1
    cases h1
    rw [hE] at h2
    cases h2)
   exact ⟨os,by rw [this,fN]⟩
theorem aeR {ops:Array Oper} {l:List bQ} {perm:Nat->Nat} {mF:Nat} (L:Laid P N ops l perm mF) (jk:∀(q:Nat) (d:bQ),l[q]?=some d->fm d=true->d.op.guard=none) {F:Nat->Nat->Value} {H:Nat->ae} {V:Nat->Value} (T:Trace P l 0 F H V)
  {sD:aD} {wb:World} {S r:List Nat} (hv:qy ops S r):
  uL (ops.toList.map dC) S->(∀i∈S,i<ops.size)->∀Sp,(∀q,q∈Sp↔q<ops.size/\perm q∈S)->∀m,mF<=m->m<=l.length->Dn l Sp m->∀S' B ρ a w,cP P N B ρ (cW V Sp l 0 (F 0)) (H m) a w->(H mF).length<=(H m).length->
   (∀(q:Nat) (d:bQ),l[q]?=some d->fm d=true->q∉Sp->ρ (H q).length=none/\cF (H m) (V q)=cF (H (q+1)) (V q))->Tr sD (H 0) wb ρ (H m) w->∀Q:Exit->Act->World->Prop,
   (∀aq a' w',cP P N B aq (F l.length) (H l.length) a' w'->Tr sD (H 0) wb aq (H l.length) w'->Q .normal a' w')->wpOpsIn (FR S') 0 P ops Q r a w:=by
 induction hv with
 | nil gP=>
  rename_i S
  intro dV ar Sp te m vQ hm dI S' B ρ a w R _ _ TB Q hq
  have gS:∀q,q<l.length->q∈Sp:=λq hq=>(te q).2 ⟨by rw [<-L.len];exact hq,gP _ (L.lt q (by rw [<-L.len];exact hq))⟩
  have hF:cW V Sp l 0 (F 0)=F l.length:=by
   have h1:=vp T l 0 (List.range l.length) l.length (λk=>by simp) (λk=>by simp) (by omega) (by omega)
   rw [<-h1]
   funext t
   refine pF (λk d hk _=>?_) rfl
   have gG:=(ba hk).1
   simp only [zero_add,mem_range]
   exact ⟨λ_=>gG,λ_=>gS k gG⟩
  have hH:H l.length=H m:=by
   refine lE T hm (le_refl _) ?_
   rintro e oe he hE ⟨h1,h2⟩
   have:=(dI e oe he hE (L.high e oe he (by omega))).1 (gS e h2)
   omega
  rw [hF] at R
  simp only [wpOpsIn]
  exact hq ρ a w (by rw [hH];exact R) (by rw [hH];exact TB)
 | cons oN oM q7 hvr ih=>
  rename_i S j0 o r
  intro dV ar Sp te m vQ hm dI S' B ρ a w R hlen mA TB Q hq
  have Q6:j0<ops.size:=(Array.getElem?_eq_some_iff.1 oN).1
  obtain ⟨j,mB,pP⟩:=L.sur j0 Q6
  have nK:j<l.length:=by rw [L.len];exact mB
  have bA:l[j]?=some (l[j]'nK):=getElem?_eq_getElem _
  generalize hd0:l[j]'nK=d at bA
  obtain ⟨x,hc,x1,x2,x3,x4⟩:=L.comp j o d (by rw [pP];exact oN) bA
  obtain ⟨q1,q2,q3,q4,q5⟩:=vf hc
  rw [x2] at q4
  rw [x1] at q5
  have Gl:j∉Sp:=λh=>oM (by rw [<-pP];exact ((te j).1 h).2)
  have fZ:(ops.toList.map dC).getD j0 []=dC o:=by
   simp [getD,oN]
  have nG:uL (ops.toList.map dC) (j0::S):=by
   intro k e hk he
   rcases mem_cons.1 hk with rfl | hk
   ·rw [fZ] at he
    exact mem_cons_of_mem _ (q7 e he)
   ·exact mem_cons_of_mem _ (dV k e hk he)
  have vz:∀q,q∈j::Sp↔q<ops.size/\perm q∈j0::S:=by
   intro q
   rw [mem_cons,mem_cons,te]
   constructor
   ·rintro (rfl | ⟨h1,h2⟩)
    ·exact ⟨mB,.inl pP⟩
    ·exact ⟨h1,.inr h2⟩
   ·rintro ⟨h1,h2 | h2⟩
    ·exact .inl (L.inj q j h1 mB (h2.trans pP.symm))
    ·exact .inr ⟨h1,h2⟩
  have before:∀i,i<ops.size->d.pre.testBit i=true->i∈Sp:=by
   intro i hi hb
   rw [L.pre j d bA i hi,pP] at hb
   exact (te i).2 ⟨hi,BS dV L.back j0 (perm i) (by rw [fZ];exact q7) hb⟩
  have behind:∀k dk,l[k]?=some dk->dk.pre.testBit j=true->k∉Sp:=by
   intro k dk hk hb vO
   have hkn:k<ops.size:=by rw [<-L.len];exact (ba hk).1
   rw [L.pre k dk hk j mB,pP] at hb
   have ahr:=((te k).1 vO).2
   exact oM (BS dV L.back (perm k) j0 (λe he=>dV (perm k) e ahr he) hb)
  have gi:∀{k dk},l[k]?=some dk->k<ops.size:=λhk=>by rw [<-L.len];exact (ba hk).1
  have slot:∀t,nW d t=true->cW V Sp l 0 (F 0) t=F j t:=by
   intro t ht
   have h1:=vp T l 0 (List.range j) j (λk=>by simp) (λk=>by simp) (by omega) (by omega)
   rw [<-h1]
   refine pF (λk dk hk q6=>?_) rfl
   simp only [zero_add,mem_range]
   by_cases lI:k=j
   ·subst lI
    exact ⟨λh=>absurd h Gl,λh=>absurd h (Nat.lt_irrefl _)⟩
   ·have hp:=Wh (L.wX k j dk d hk bA) lI q6 ht
    by_cases gT:k<j
    ·rw [if_pos gT] at hp
     exact ⟨λ_=>gT,λ_=>before k (gi hk) hp⟩
    ·rw [if_neg gT] at hp
     exact ⟨λh=>absurd h (behind k dk hk hp),λh=>absurd h gT⟩
  have rz:∀t∈d.op.reads,cW V Sp l 0 (F 0) t=F j t:=λt ht=>slot t (by simp [nW,ht])
  have tA:∀t∈tmpsOf d.op.op.eO,cW V Sp l 0 (F 0) t=F j t:=λt ht=>rz t (by simp [ft.reads,ht])
  have wo:fq d.op.guard (cW V Sp l 0 (F 0))=fq d.op.guard (F j):=by
   cases hg:d.op.guard with
   | none=>rfl
   | some sb=>
    obtain ⟨s,b⟩:=sb
    simp only [fq]
    rw [rz s (by simp [ft.reads,hg])]
  have F9:mh d.op.guard (cW V Sp l 0 (F 0)):=by
   have:=T.FL j d bA
   simp only [zero_add] at this
   cases hg:d.op.guard with
   | none=>trivial
   | some sb=>
    obtain ⟨s,b⟩:=sb
    rw [hg] at this
    simp only [mh] at this⊢
    rw [rz s (by simp [ft.reads,hg])]
    exact this
  have wu:=xn q4 R F9
  have gf:cW V (j::Sp) l 0 (F 0)=ck (cW V Sp l 0 (F 0)) o.dst (V j):=by
   rw [<-q5]
   funext t
   by_cases mz:d.op.dst=some t
   ·have h1:=FA (V:=V) (S:=j::Sp) (l:=l) (i:=0) (f:=F 0) (k:=j) (d:=d) bA mz (by simp) (by
     intro k' d' bO oI gT
     have hp:=Wh (L.wX k' j d' d bO bA) (by omega) oI (by simp [nW,mz])
     rw [if_neg (by omega)] at hp
     have:=behind k' d' bO hp
     simp only [zero_add,mem_cons,not_or]
     exact ⟨by omega,this⟩)
    rw [h1]
    simp [mz,ck,m7]
   ·have h1:cW V (j::Sp) l 0 (F 0) t=cW V Sp l 0 (F 0) t:=by
     refine pF (λk dk hk q6=>?_) rfl
     have lI:k≠j:=by
      rintro rfl
      rw [bA] at hk
      cases hk
      exact mz q6
     simp [lI]
    rw [h1]
    cases vD:d.op.dst with
    | none=>rfl
    | some y=>
     have:t≠y:=by rintro rfl;exact mz vD
     simp [ck,m7,this]
  have dT:∀i∈j0::S,i<ops.size:=by
   intro i hi
   rcases mem_cons.1 hi with rfl | hi
   ·exact Q6
   ·exact ar i hi
  -- arA still to arw stay od arX are
  have w9:∀q dq,l[q]?=some dq->fm dq=true->q<mF:=by
   intro q dq hq hf
   apply byContradiction
   intro h
   rw [L.high q dq hq (by omega)] at hf
   cases hf
  have an7:∀q dq,l[q]?=some dq->fm dq=true->(H q).length<(H mF).length:=by
   intro q dq hq hf
   have hqm:=w9 q dq hq hf
   obtain ⟨a,ha⟩:=rL.1 hf
   obtain ⟨_,oo,_,_,h3,_⟩:=sY T hq ha (jk _ _ hq hf)
   obtain ⟨os,fN⟩:=pN L jk T (k:=q+1) (mF-(q+1)) (by omega)
   rw [show q+1+(mF-(q+1))=mF by omega,h3] at fN
   rw [fN]
   simp
  have Sc:∀{aq:aD} {h':ae} {w':World},Tr ρ (H m) w aq h' w'->∀q dq,l[q]?=some dq->fm dq=true->ρ (H q).length=none->aq (H q).length=none:=by
   intro aq h' w' TT q dq hq hf hn
   cases hr:aq (H q).length with
   | none=>rfl
   | some s=>
    have:=(TT.fresh _ s hr hn).1
    have:=an7 q dq hq hf
    omega
  -- je xj,where je alg writes memory
  have xl:d.op.op.cj=true->fm d=false->mF<=j/\H m=H j/\Dn l (j::Sp) (j+1):=by
   intro hE lK
   have vM:mF<=j:=by
    apply byContradiction
    intro h
    rw [L.low j d bA (by omega) hE] at lK
    cases lK
   have kV:m<=j:=by
    apply byContradiction
    intro h
    exact Gl ((dI j d bA hE lK).2 (by omega))
   refine ⟨vM,?_,?_⟩
   ·refine (lE T kV (by omega) ?_).symm
    rintro e oe he iF ⟨h1,h2⟩
    have oJ:=L.high e oe he (by omega)
    have hb:=I6 (L.wX e j oe d he bA) h2 iF hE oJ lK
    have:=(dI e oe he iF oJ).1 (before e (gi he) hb)
    omega
   ·intro e oe he iF oJ
    rcases Nat.lt_trichotomy e j with gT | rfl | Ga
    ·have hb:=I6 (L.wX e j oe d he bA) gT iF hE oJ lK
     exact ⟨λ_=>by omega,λ_=>mem_cons_of_mem _ (before e (gi he) hb)⟩
    ·exact ⟨λ_=>by omega,λ_=>by simp⟩
    ·have hb:=I6 (L.wX j e d oe bA he) Ga hE iF lK oJ
     have:=behind e oe he hb
     constructor
     ·intro h
      rcases mem_cons.1 h with h | h
      ·omega
      ·exact absurd h this
     ·intro h;omega
  have uq:(d.op.op.cj=false∨fm d=true)->Dn l (j::Sp) m:=by
   intro hE e oe he iF oJ
   have aU:e≠j:=by
    rintro rfl
    rw [bA] at he
    cases he
    rcases hE with hE | hE
    ·rw [hE] at iF;cases iF
    ·rw [hE] at oJ;cases oJ
   rw [<-dI e oe he iF oJ]
   simp [aU]
  have lg:=T.yes j d bA
  have cL:=T.no j d bA
  simp only [zero_add] at lg cL
  simp only [wpOpsIn,oN]
  by_cases hw:fq d.op.guard (F j)=true
  ·rw [if_pos (by rw [wu,wo,hw])]
   have hs:=lg hw
   rcases x4 with ⟨lK,K5⟩ | ⟨aa,K5,Fa,dg⟩
   ·rw [K5] at q3
    by_cases hE:d.op.op.cj=true
    ·obtain ⟨e0,e1,e2⟩:=xl hE lK
     rw [<-Cg tA,<-e1] at hs
     obtain ⟨v,h',st,hv,hh⟩:=rZ (N:=N) q3 q1 hs
     subst hv
     subst hh
     refine st S' B ρ a w R _ _ ?_
     intro aq v' w' oP HH TT
     have R':=R.nR q2 TT oP HH
     rw [<-gf] at R'
     refine ih nG dT (j::Sp) vz (j+1) (by omega) (by omega) e2 S' B aq _ w' R' (Nat.le_trans hlen TT.len) ?_ (TB.trans TT) Q hq
     intro q dq fw hf kY
     have Rk:q∉Sp:=λh=>kY (mem_cons_of_mem _ h)
     obtain ⟨i1,i2⟩:=mA q dq fw hf Rk
     refine ⟨Sc TT q dq fw hf i1,?_⟩
     obtain ⟨a',vA⟩:=rL.1 hf
     obtain ⟨_,oo,_,_,_,_,h5,h6⟩:=sY T fw vA (jk _ _ fw hf)
     rw [h5]
     refine h6 j d bA hE (by have:=w9 q dq fw hf;omega) ?_
     cases hb:d.pre.testBit q with
     | false=>rfl
     | true=>exact absurd (before q (gi fw) hb) Rk
    ·have dU:d.op.op.cj=false:=by simpa using hE
     -- Ka is looked at has one value at this xj and in je arO order
     have eM:bY P d.op.op (cW V Sp l 0 (F 0)) (H m) λv h'=>v=V j/\h'=H m:=by
      rw [Cg tA]
      cases bX:d.op.op with
      | p po=>
       rw [bX] at hs
       simp only [bY,dK] at hs⊢
       split at hs
       ·exact ⟨hs.1,trivial⟩
       ·exact hs.elim
      | l lo=>
       have tG:dJ lo (ev (F j)) (H j)=some (V j):=by
        rw [bX] at hs
        simp only [bY,dK] at hs
        split at hs
        ·rename_i v hv
         rw [hv,hs.1]
        ·exact hs.elim
       -- from a place at or behind je head,to a xj before it
       have down:mF<=j->m<=j->dJ lo (ev (F j)) (H m)=some (V j):=by
        intro vM kV
        by_cases hex:∃e oe,l[e]?=some oe/\oe.op.op.cj=true/\m<=e/\e<j
        ·have key:∀n,(∃e oe,l[e]?=some oe/\oe.op.op.cj=true/\m<=e/\e<j/\e<n)->∃e oe,l[e]?=some oe/\oe.op.op.cj=true/\m<=e/\e<j/\∀e' fI,l[e']?=some fI->fI.op.op.cj=true->¬(m<=e'/\e'<e):=by
          intro n
          induction n with
          | zero=>rintro ⟨e,oe,_,_,_,_,h⟩;omega
          | succ n mO=>
           rintro ⟨e,oe,h1,h2,h3,h4,h5⟩
           by_cases dX:∃e oe,l[e]?=some oe/\oe.op.op.cj=true/\m<=e/\e<j/\e<n
           ·exact mO dX
           ·refine ⟨e,oe,h1,h2,h3,h4,?_⟩
            rintro e' fI k1 k2 ⟨k3,k4⟩
            exact dX ⟨e',fI,k1,k2,k3,by omega,by omega⟩
         obtain ⟨e0,rY,g1,g2,g3,g4⟩:=hex
         obtain ⟨e,oe,h1,h2,h3,h4,h5⟩:=key j ⟨e0,rY,g1,g2,g3,g4,g4⟩
         have qU:H e=H m:=lE T h3 (by omega) (λe' fI k1 k2 k3=>h5 e' fI k1 k2 k3)
         rw [<-qU]
         have ri:d.pre.testBit e=false:=by
          cases hb:d.pre.testBit e with
          | false=>rfl
          | true=>
           have:=(dI e oe h1 h2 (L.high e oe h1 (by omega))).1 (before e (gi h1) hb)
           omega
         have:=T.I9 e oe j d lo h1 h2 bA bX (by simpa using hw) h4 (by simpa using ri)
         simpa using this
        ·have qV:H j=H m:=lE T kV (by omega) (λe oe h1 h2 h3=>hex ⟨e,oe,h1,h2,h3⟩)
         rw [<-qV]
         exact tG
       -- to a xj behind it,from where je value is known
       have up:∀b,j<=b->mF<=b->b<=m->dJ lo (ev (F j)) (H b)=some (V j)->dJ lo (ev (F j)) (H m)=some (V j):=by
        intro b Q5 hbF hbm hbv
        by_cases hex:∃e oe,l[e]?=some oe/\oe.op.op.cj=true/\b<=e/\e<m
        ·have key:∀n,(∃e oe,l[e]?=some oe/\oe.op.op.cj=true/\b<=e/\e<m/\m<=e+n)->∃e oe,l[e]?=some oe/\oe.op.op.cj=true/\b<=e/\e<m/\∀e' fI,l[e']?=some fI->fI.op.op.cj=true->¬(e+1<=e'/\e'<m):=by
          intro n
          induction n with
          | zero=>rintro ⟨e,oe,_,_,_,_,h⟩;omega
          | succ n mO=>
           rintro ⟨e,oe,h1,h2,h3,h4,h5⟩
           by_cases dX:∃e oe,l[e]?=some oe/\oe.op.op.cj=true/\b<=e/\e<m/\m<=e+n
           ·exact mO dX
           ·refine ⟨e,oe,h1,h2,h3,h4,?_⟩
            rintro e' fI k1 k2 ⟨k3,k4⟩
            exact dX ⟨e',fI,k1,k2,by omega,by omega,by omega⟩
         obtain ⟨e0,rY,g1,g2,g3,g4⟩:=hex
         obtain ⟨e,oe,h1,h2,h3,h4,h5⟩:=key m ⟨e0,rY,g1,g2,g3,g4,by omega⟩
         have aU:e≠j:=by
          rintro rfl
          rw [bA] at h1
          cases h1
          rw [dU] at h2
          cases h2
         have qU:H m=H (e+1):=lE T (by omega) hm (λe' fI k1 k2 k3=>h5 e' fI k1 k2 k3)
         rw [qU]
         have ri:oe.pre.testBit j=false:=by
          cases hb:oe.pre.testBit j with
          | false=>rfl
          | true=>exact absurd ((dI e oe h1 h2 (L.high e oe h1 (by omega))).2 h4) (behind e oe h1 hb)
         have:=T.FB j d lo e oe bA bX (by simpa using hw) h1 h2 (by omega) (by simpa using ri)
         simpa using this
        ·have qV:H m=H b:=lE T hbm hm (λe oe h1 h2 h3=>hex ⟨e,oe,h1,h2,h3⟩)
         rw [qV]
         exact hbv
       have dM:dJ lo (ev (F j)) (H m)=some (V j):=by
        by_cases vM:mF<=j
        ·rcases Nat.le_total m j with kV | kV
         ·exact down vM kV
         ·exact up j (le_refl _) vM kV tG
        ·obtain ⟨os,fN⟩:=pN L jk T (k:=j) (mF-j) (by omega)
         rw [show j+(mF-j)=mF by omega] at fN
         refine up mF (by omega) (le_refl _) vQ ?_
         rw [fN]
         exact aiU os tG
       simp [bY,dK,dM]
      | e eo=>rw [bX] at dU;cases dU
      | call g args=>rw [bX] at dU;cases dU
      | hK x args=>rw [bX] at dU;cases dU
     obtain ⟨v,h',st,hv,hh⟩:=rZ (N:=N) q3 q1 eM
     subst hv
     subst hh
     refine st S' B ρ a w R _ _ ?_
     intro aq v' w' oP HH TT
     have R':=R.nR q2 TT oP HH
     rw [<-gf] at R'
     refine ih nG dT (j::Sp) vz m vQ hm (uq (.inl dU)) S' B aq _ w' R' hlen ?_ (TB.trans TT) Q hq
     intro q dq fw hf kY
     obtain ⟨i1,i2⟩:=mA q dq fw hf (λh=>kY (mem_cons_of_mem _ h))
     exact ⟨Sc TT q dq fw hf i1,i2⟩
   ·-- a new alb
    have hf:fm d=true:=rL.2 ⟨aa,Fa⟩
    obtain ⟨Vf,oo,h1,h2,h3,h4,h5,h6⟩:=sY T bA Fa dg
    obtain ⟨i1,i2⟩:=mA j d bA hf Gl
    have mi:ie aa (ev (cW V Sp l 0 (F 0)))=some (Vf,oo):=by
     rw [<-h1]
     refine abS (Fj λt ht=>tA t ?_)
     rw [Fa]
     exact ht
    have fL:=El h1 (H j).length
    rw [<-h2] at fL
    have ahN:(H m)[(H j).length]?=some oo:=by
     rw [h5] at i2
     unfold cF at i2
     rw [fL] at i2
     simp only [bind_some] at i2
     cases ho:(H m)[(H j).length]? with
     | none=>
      rw [ho] at i2
      obtain ⟨u,hu⟩:=Option.isSome_iff_exists.1 h4
      rw [hu] at i2
      cases i2
     | some o'=>
      rw [ho] at i2
      obtain ⟨u,vI⟩:=Option.isSome_iff_exists.1 h4
      simp only [bind_some] at i2
      rw [afU (i2.trans vI) vI]
    have aiq:bY P x.op (cW V Sp l 0 (F 0)) (H m) λv h'=>v=Vf (H m).length/\h'=H m++[oo]:=by
     rw [K5]
     simp only [bY,jc,aiS,RQ,mi,map_some]
     exact ⟨trivial,trivial⟩
    obtain ⟨v,h',st,hv,hh⟩:=rZ (N:=N) q3 q1 aiq
    subst hv
    subst hh
    refine st S' B ρ a w R _ _ ?_
    intro aq v' w' oP HH TT
    have HR:=R.heap.take ahN h4 i1 HH TT
    have hle:ρ.le λk=>if k=(H j).length then aq (H m).length else ρ k:=by
     intro k s hk
     have:k≠(H j).length:=by rintro rfl;rw [i1] at hk;cases hk
     simp [this,hk]
    have R1:cP P N B (λk=>if k=(H j).length then aq (H m).length else ρ k) (cW V Sp l 0 (F 0)) (H m) a w':=⟨R.size,marks.tr R.heap TT R.defers,λt=>(R.tmp t).mono hle,HR⟩
    have Gx:au (λk=>if k=(H j).length then aq (H m).length else ρ k) (V j) v':=by
     rw [h2]
     exact abT h1 (by simp) oP
    have R':=R1.nR q2 (Tr.refl HR) Gx HR
    rw [<-gf] at R'
    have Q5:(H 0).length<=(H j).length:=by
     obtain ⟨os,fN⟩:=pN L jk T (k:=0) j (by have:=w9 j d bA hf;omega)
     rw [zero_add] at fN
     rw [fN];simp
    refine ih nG dT (j::Sp) vz m vQ hm (uq (.inr hf)) S' B _ _ w' R' hlen ?_ (TB.take Q5 i1 TT) Q hq
    intro q dq fw F5 kY
    have hqj:q≠j:=λh=>kY (by simp [h])
    obtain ⟨k1,k2⟩:=mA q dq fw F5 (λh=>kY (mem_cons_of_mem _ h))
    refine ⟨?_,k2⟩
    have aU:(H q).length≠(H j).length:=by
     have grow:∀{a b:Nat} {da:bQ},l[a]?=some da->fm da=true->a<b->b<mF->(H a).length<(H b).length:=by
      intro a b da ha QZ j2 hb
      obtain ⟨a',vA⟩:=rL.1 QZ
      obtain ⟨_,oo',_,_,g3,_⟩:=sY T ha vA (jk _ _ ha QZ)
      obtain ⟨os,fN⟩:=pN L jk T (k:=a+1) (b-(a+1)) (by omega)
      rw [show a+1+(b-(a+1))=b by omega,g3] at fN
      rw [fN]
      simp
     rcases Nat.lt_or_gt_of_ne hqj with h | h
     ·have:=grow fw F5 h (w9 j d bA hf);omega
     ·have:=grow bA hf h (w9 q dq fw F5);omega
    simp [aU,k1]
  ·have rD:fq d.op.guard (F j)=false:=by simpa using hw
   rw [if_neg (by rw [wu,wo,rD];simp)]
   obtain ⟨n1,n2⟩:=cL rD
   have R':=R.nR q2 (Tr.refl R.heap) (au.undef _) R.heap
   rw [n1] at gf
   rw [<-gf] at R'
   have lK:fm d=false:=by
    cases hf:fm d with
    | false=>rfl
    | true=>rw [jk j d bA hf] at rD;cases rD
   by_cases hE:d.op.op.cj=true
   ·obtain ⟨e0,e1,e2⟩:=xl hE lK
    have e3:H (j+1)=H m:=by rw [n2,e1]
    refine ⟨λ_ _=>trivial,ih nG dT (j::Sp) vz (j+1) (by omega) (by omega) e2 S' B ρ _ w (by rw [e3];exact R') (by rw [e3];exact hlen) ?_ (by rw [e3];exact TB) Q hq⟩
    intro q dq fw hf kY
    rw [e3]
    exact mA q dq fw hf (λh=>kY (mem_cons_of_mem _ h))
   ·exact ⟨λ_ _=>trivial,ih nG dT (j::Sp) vz m vQ hm (uq (.inl (by simpa using hE))) S' B ρ _ w R' hlen (λq dq fw hf kY=>mA q dq fw hf (λh=>kY (mem_cons_of_mem _ h))) TB Q hq⟩
end
end
section
section
variable {P : Program} {N : Nat}
theorem aeJ {op:Op} {a:iT} (h:fc P op=some (.fl a)):False:=by
 unfold fc at h
 split at h
 all_goals repeat' (split at h)
 all_goals first | (cases h;done) | (simp at h;done) | (simp only [map_eq_some_iff] at h;obtain ⟨_,_,h⟩:=h;cases h;done)
theorem aeL {op:Op} {a:iT} (h:oq P op=some (.e (.fl a))):False:=by
 rcases E7 h with ⟨po,e,_⟩ | ⟨lo,e,_⟩ | ⟨eo,e,he⟩ | ⟨g,args,at_,_,_,e⟩ | ⟨x,args,at_,_,e⟩
 ·cases e
 ·cases e
 ·cases e;exact aeJ he
 ·cases e
 ·cases e
theorem PY:∀{l:List Nat},Ac l=true->l.Nodup
 | [],_=>.nil
 | x::xs,h=>by
  simp only [Ac,and_eq_true] at h
  rw [nodup_cons]
  exact ⟨by simpa using h.1,PY h.2⟩
theorem Sg {l:List bQ} {fl:List Nat} {p0:List Nat}:∀{perm:List Nat},(∀i∈perm,i<l.length)->∀q:Nat,
  (perm.filterMap λi=>(l[i]?).map λo=>(⟨if fl.contains i then vn o.op else o.op,Bi o.pre p0 0⟩:bQ))[q]?=(perm[q]?).bind λi=>(l[i]?).map λo=>⟨if fl.contains i then vn o.op else o.op,Bi o.pre p0 0⟩
 | [],_,q=>by simp
 | i::perm,h,q=>by
  have eS:i<l.length:=h i (by simp)
  have hi:l[i]?=some l[i]:=getElem?_eq_getElem eS
  rw [List.filterMap_cons,hi]
  simp only [map_some]
  cases q with
  | zero=>simp [hi]
  | succ q=>
   rw [List.getElem?_cons_succ,List.getElem?_cons_succ]
   exact Sg (λi hi=>h i (by simp [hi])) q
theorem aeK {ops:Array Oper} {l:List bQ} {perm:List Nat} (hc:zU P N ops=some (l,perm)):P.follows .mixedOrders=true/\qD ops.toList 0=true/\Laid P N ops l (λq=>perm.getD q 0) (nI l)/\∀(q:Nat) (d:bQ),l[q]?=some d->fm d=true->d.op.guard=none:=by
 unfold zU at hc
 split at hc
 ·rename_i ios Gc
  simp only at hc
  split at hc
  ·rename_i my
   simp only [Option.some.injEq,Prod.mk.injEq] at hc
   obtain ⟨hl,hp⟩:=hc
   rw [hp] at hl my
   rw [hl] at my
   simp only [and_eq_true] at my
   obtain ⟨⟨vR,mu⟩,aC⟩:=my
   obtain ⟨g1,g2⟩:=E6 Gc
   have j5:(fT (ops.toList.map dC) []).length=ops.size:=by rw [zQ];simp
   have Gf:ios.length<=(fT (ops.toList.map dC) []).length:=by rw [zQ];simp [g1]
   obtain ⟨z1,z2⟩:=Lc Gf
   have hz:(jS ios (fT (ops.toList.map dC) [])).length=ops.size:=by rw [z1,g1];simp
   unfold okF at aC
   simp only [and_eq_true,beq_iff_eq] at aC
   obtain ⟨⟨⟨⟨⟨⟨⟨o1,o2⟩,o3⟩,o4⟩,o5⟩,o6⟩,o7⟩,o8⟩:=aC
   rw [j5] at o1 o2 o4 o7
   rw [all_eq_true] at o4 o5 o6 o7 o8
   have ar:∀i∈perm,i<ops.size:=λi hi=>by simpa using o4 i hi
   have bA:∀q,q<ops.size->perm.getD q 0∈perm:=by
    intro q hq
    have:q<perm.length:=by omega
    rw [List.getD_eq_getElem?_getD,getElem?_eq_getElem this]
    exact List.getElem_mem this
   have kW:=PY o3
   have inj:∀q k,q<ops.size->k<ops.size->perm.getD q 0=perm.getD k 0->q=k:=by
    intro q k hq hk he
    have fw:q<perm.length:=by omega
    have bO:k<perm.length:=by omega
    rw [List.getD_eq_getElem?_getD,List.getD_eq_getElem?_getD,getElem?_eq_getElem fw,getElem?_eq_getElem bO] at he
    simp only [getD_some] at he
    have hp:=List.pairwise_iff_getElem.1 kW
    rcases Nat.lt_trichotomy q k with h | h | h
    ·exact absurd he (hp q k fw bO h)
    ·exact h
    ·exact absurd he.symm (hp k q bO fw h)
   have mem:∀{q d},l[q]?=some d->(d,q)∈l.zipIdx:=λh=>List.mem_zipIdx_iff_getElem?.2 h
   refine ⟨vR,mu,⟨o1,λq hq=>ar _ (bA q hq),inj,?_,?_,?_,?_,?_,Nat.sub_le _ _,?_,?_⟩,?_⟩
   ·intro j hj
    have iI:j∈perm:=by
     apply byContradiction
     intro cL
     have v7:perm ⊆ (List.range ops.size).erase j:=by
      intro x hx
      have hxj:x≠j:=by rintro rfl;exact cL hx
      rw [List.mem_erase_of_ne hxj]
      exact mem_range.2 (ar x hx)
     have:=Bn kW v7
     rw [List.length_erase_of_mem (mem_range.2 hj),List.length_range] at this
     omega
    obtain ⟨q,hq,e⟩:=List.mem_iff_getElem.1 iI
    exact ⟨q,by omega,by rw [List.getD_eq_getElem?_getD,getElem?_eq_getElem hq,getD_some,e]⟩
   ·intro q o d ho hd
    have kY:q<ops.size:=by rw [<-o1];exact (ba hd).1
    have fw:q<perm.length:=by omega
    have mE:=Sg (l:=jS ios (fT (ops.toList.map dC) [])) (fl:=Fy (jS ios (fT (ops.toList.map dC) []))) (p0:=perm) (perm:=perm) (λi hi=>by rw [hz];exact ar i hi) q
    have kT:=hl
    unfold Sf at kT
    rw [kT,hd] at mE
    rw [getElem?_eq_getElem fw] at mE
    simp only [bind_some] at mE
    have hpq:perm.getD q 0=perm[q]:=by rw [List.getD_eq_getElem?_getD,getElem?_eq_getElem fw];rfl
    rw [hpq] at ho
    cases GA:(jS ios (fT (ops.toList.map dC) []))[perm[q]]? with
    | none=>rw [GA] at mE;cases mE
    | some dz=>
     rw [GA] at mE
     simp only [map_some,Option.some.injEq] at mE
     have hx:=(z2 _ _ GA).1
     have iY:=g2 _ o dz.op (by simpa using ho) hx
     obtain ⟨c1,c2,c3,c4,c5⟩:=vf iY
     have akX:∀a,dz.op.op≠ .e (.fl a):=by
      intro a e
      rw [e] at c3
      exact aeL c3
     refine ⟨dz.op,iY,?_⟩
     have plain:d.op=dz.op->dz.op.dst=d.op.dst/\dz.op.guard=d.op.guard/\tmpsOf dz.op.op.eO=tmpsOf d.op.op.eO/\((fm d=false/\dz.op.op=d.op.op)∨∃a,dz.op.op=.e a.Ck/\d.op.op=.e (.fl a)/\d.op.guard=none):=by
      intro e
      refine ⟨by rw [e],by rw [e],by rw [e],.inl ⟨?_,by rw [e]⟩⟩
      cases hf:fm d with
      | false=>rfl
      | true=>
       obtain ⟨a,ha⟩:=rL.1 hf
       rw [e] at ha
       exact absurd ha (akX a)
     by_cases mA:(Fy (jS ios (fT (ops.toList.map dC) []))).contains perm[q]=true
     ·rw [if_pos mA] at mE
      have nH:d.op=vn dz.op:=by rw [mE]
      unfold vn at nH
      split at nH
      ·rename_i eo he hg
       split at nH
       ·rename_i a ha
        refine ⟨by rw [nH],by rw [nH,hg],?_,.inr ⟨a,by rw [he,XY ha],by rw [nH],by rw [nH]⟩⟩
        rw [nH,he,<-XY ha]
        cases a <;> rfl
       ·exact plain nH
      ·exact plain nH
     ·rw [if_neg mA] at mE
      exact plain (by rw [mE])
   ·intro q d hd k hk
    have h1:=o7 (d,q) (mem hd)
    rw [all_eq_true] at h1
    have:=h1 k (mem_range.2 hk)
    simpa using this
   ·intro j e he
    by_cases hj:j<ops.size
    ·have hg:ops.toList[j]?=some ops[j]:=by simp [hj]
     have:(ops.toList.map dC).getD j []=dC ops[j]:=by simp [getD,hj]
     rw [this] at he
     have:=yX mu j ops[j] hg e he
     omega
    ·have:(ops.toList.map dC).getD j []=[]:=by simp [getD,le_of_not_lt hj]
     rw [this] at he
     simp at he
   ·intro i j oi oj hi hj
    have h1:=o5 (oj,j) (mem hj)
    rw [all_eq_true] at h1
    exact h1 (oi,i) (mem hi)
   ·intro q d hd hq hE
    have h1:=o6 (d,q) (mem hd)
    simp only at h1
    rw [if_pos hq,hE] at h1
    simpa using h1
   ·intro q d hd hq
    have h1:=o6 (d,q) (mem hd)
    simp only at h1
    rw [if_neg (by omega)] at h1
    simpa using h1
   ·intro q d hd hf
    have h1:=o8 (d,q) (mem hd)
    simp only [hf,Bool.not_true,Bool.false_or,Option.isNone_iff_eq_none] at h1
    exact h1
  ·cases hc
 ·cases hc
theorem aiN {out:Bool} {id:Nat} {ops:Array Oper} {l:List bQ} {perm:List Nat} {K:(Nat->Value)->ae->Prop} {f:Nat->Value} {h:ae} (hc:zU P N ops=some (l,perm)) (hi:hT P l 0 [] [] K f h):
  ∃f' h',eB P N out (.region id ops true) f h .normal f' h'/\K f' h':=by
 obtain ⟨vR,mu,L,jk⟩:=aeK hc
 obtain ⟨F,H,V,f1,f2,f3,T,_,_⟩:=GO hi
 simp only [zero_add] at f3
 refine ⟨F l.length,H l.length,?_,f3⟩
 intro S hS B ρ a w R
 refine wpIn_region_draw ?_
 intro t
 have Gw:Region.schedule (P.follows .mixedOrders) ops t=Region.linearise .any ops t:=by
  unfold Region.schedule
  rw [vR]
  simp
 rw [Gw]
 have dM:=Sm mu t
 have vS:∀(l:List bQ) (i:Nat) (f:Nat->Value),cW V [] l i f=f:=by
  intro l
  induction l with
  | nil=>intro i f;rfl
  | cons a l ih=>intro i f;simp [cW,ih]
 obtain ⟨os,fN⟩:=pN L jk T (k:=0) (nI l) (by omega)
 rw [zero_add] at fN
 have R0:cP P N B ρ f h a { w with drawn:=w.drawn+1 }:=R.mono (Tr.drew R.heap _) (R.heap.drew _)
 have Av:H 0=h:=f2
 have TG:Tr ρ (H 0) w ρ (H (nI l)) { w with drawn:=w.drawn+1 }:=by
  rw [fN,Av]
  exact (Tr.drew R.heap _).trans (Tr.Ap R0.heap os)
 have R1:cP P N B ρ (cW V [] l 0 (F 0)) (H (nI l)) a { w with drawn:=w.drawn+1 }:=by
  rw [vS,f1,fN,Av]
  exact R0.mono (Tr.Ap R0.heap os) (R0.heap.Ap os)
 refine aeR L jk T dM (λj e hj=>by simp at hj) (λi hi=>by simp at hi) [] (λq=>by simp) (nI l) (le_refl _) L.head (λe oe he _ hf=>?_) S B ρ a _ R1 (le_refl _) ?_ TG _ ?_
 ·constructor
  ·intro h;simp at h
  ·intro ar
   -- an effect at je head is a float
   rename_i hE
   rw [L.low e oe he ar hE] at hf
   cases hf
 ·intro q d hq hf _
  obtain ⟨a',vA⟩:=rL.1 hf
  obtain ⟨_,oo,g1,g2,g3,_,g5,_⟩:=sY T hq vA (jk q d hq hf)
  have hqm:q<nI l:=by
   apply byContradiction
   intro h'
   rw [L.high q d hq (by omega)] at hf
   cases hf
  constructor
  ·obtain ⟨os',vU⟩:=pN L jk T (k:=0) q (by omega)
   rw [zero_add,Av] at vU
   cases hr:ρ (H q).length with
   | none=>rfl
   | some r=>
    have:=R.heap.lt hr
    rw [vU] at this
    simp at this
    omega
  ·obtain ⟨os',vU⟩:=pN L jk T (k:=q+1) (nI l-(q+1)) (by omega)
   rw [show q+1+(nI l-(q+1))=nI l by omega] at vU
   rw [vU]
   have fL:=El g1 (H q).length
   rw [<-g2] at fL
   unfold cF
   rw [fL]
   simp only [bind_some]
   rw [getElem?_append_left (by rw [g3];simp)]
 ·intro aq a' w' R' T'
  refine ⟨rfl,aq,R',?_⟩
  rw [Av] at T'
  exact T'
theorem RO {out:Bool} {id:Nat} {ops:Array Oper} {l:List bQ} {K:(Nat->Value)->ae->Prop} {f:Nat->Value} {h:ae} (hc:E4 P N ops=some l) (hi:hT P l 0 [] [] K f h):
  ∃f' h',eB P N out (.region id ops true) f h .normal f' h'/\K f' h':=by
 unfold E4 at hc
 split at hc
 ·rename_i l' hl
  simp at hc;subst hc
  exact aiO hl hi
 ·rw [map_eq_some_iff] at hc
  obtain ⟨⟨l',perm⟩,hl,rfl⟩:=hc
  exact aiN hl hi
end
end
section
section
variable {P : Program} {N : Nat}
theorem Bq (f:Nat->Value) (ks ls:List Nat) (xs:List Value) (h:xs=ls.map f):m9 (gI (ks++ls) (ks.map f++xs)) f:=by
 subst h
 rw [<-List.map_append]
 exact wL f (ks++ls)
theorem G1 {out:Bool}:∀{c:Code} {hs eM:Hints} {ic:dc},dB P N c hs=some (ic,eM)->(out=true∨eU c=true)->∀{K:Exit->(Nat->Value)->ae->Prop} {f:Nat->Value} {h:ae},fx P ic K f h->
  ∃e f' h',eB P N out c f h e f' h'/\K e f' h':=by
 intro c
 induction c with
 | skip=>
  intro hs eM ic hc ho K f h hi
  simp [dB] at hc
  obtain ⟨rfl,_⟩:=hc
  exact ⟨.normal,f,h,λS hS B ρ a w R=>wpIn_skip ⟨rfl,ρ,R,Tr.refl R.heap⟩,hi⟩
 | region id ops draw=>
  intro hs eM ic hc ho K f h hi
  cases draw with
  | true=>
   simp only [dB] at hc
   split at hc
   ·rename_i l hl
    split at hc
    ·rename_i oK
     simp at hc
     obtain ⟨rfl,_⟩:=hc
     have dE:=Qq (PZ oK) hi
     rw [Ab] at dE
     obtain ⟨f',h',r1,r2⟩:=RO (id:=id) hl dE
     exact ⟨.normal,f',h',r1,r2⟩
    ·cases hc
   ·cases hc
  | false=>
   simp only [dB] at hc
   split at hc
   ·rename_i l hl
    split at hc
    ·rename_i oK
     simp only [Option.some.injEq] at hc
     have he:ic=(lz (nE l) hs).1:=by rw [hc]
     subst he
     obtain ⟨f',h',r1,r2⟩:=aoa (i:=0) (os:=ops.toList) (ops:=ops) (λk o hk=>by simpa using hk) (by rw [An];exact hl) (Sh oK) hi
     refine ⟨.normal,f',h',eB.region ?_,r2⟩
     rw [List.range_eq_range']
     simpa using r1
    ·cases hc
   ·simp at hc
    obtain ⟨rfl,_⟩:=hc
    exact (show False from hi).elim
 | seq x y rH rI=>
  intro hs eM ic hc ho K f h hi
  have ru:out=true∨eU x=true:=ho.imp id λh=>by simp only [eU,and_eq_true] at h;exact h.1
  have rv:out=true∨eU y=true:=ho.imp id λh=>by simp only [eU,and_eq_true] at h;exact h.2
  have both:∀{a b:dc} {h0 fO iv:Hints} {ls:List Nat},dB P N x hs=some (a,h0)->dB P N y fO=some (b,iv)->fx P (.seq a (pB ls b)) K f h->∃e f' h',eB P N out (.seq x y) f h e f' h'/\K e f' h':=by
   intro a b h0 fO iv ls ha hb hi
   obtain ⟨e,bR,h₁,r1,r2⟩:=rH ha ru hi
   by_cases he:e=.normal
   ·subst he
    obtain ⟨FD,hw,r3⟩:=PV r2
    obtain ⟨e',agf,AZ,s1,s2⟩:=rI hb rv r3
    exact ⟨e',agf,AZ,r1.seq (s1.weaken hw),s2⟩
   ·refine ⟨e,bR,h₁,r1.apc he,?_⟩
    cases e <;> first | exact absurd rfl he | exact r2
  simp only [dB] at hc
  split at hc
  ·rename_i a h0 fO ha
   split at hc
   ·rename_i b iv hb
    simp at hc
    obtain ⟨rfl,_⟩:=hc
    exact both ha hb hi
   ·cases hc
  ·rename_i a ha
   split at hc
   ·rename_i b iv hb
    simp at hc
    obtain ⟨rfl,_⟩:=hc
    exact both (ls:=[]) ha hb hi
   ·cases hc
  ·cases hc
 | cond c x y rH rI=>
  intro hs eM ic hc ho K f h hi
  have ru:out=true∨eU x=true:=ho.imp id λh=>by simp only [eU,and_eq_true] at h;exact h.1
  have rv:out=true∨eU y=true:=ho.imp id λh=>by simp only [eU,and_eq_true] at h;exact h.2
  simp only [dB] at hc
  split at hc
  ·rename_i aC
   split at hc
   ·rename_i a fO ha
    split at hc
    ·rename_i b iv hb
     simp at hc
     obtain ⟨rfl,_⟩:=hc
     rw [Sb] at hi
     simp only [kz] at hi
     split at hi
     ·rename_i t ht
      cases t
      ·simp at hi
       obtain ⟨e,bR,h₁,r1,r2⟩:=rI hb rv hi
       exact ⟨e,bR,h₁,eB.cond aC ht (by simpa using r1),r2⟩
      ·simp at hi
       obtain ⟨e,bR,h₁,r1,r2⟩:=rH ha ru hi
       exact ⟨e,bR,h₁,eB.cond aC ht (by simpa using r1),r2⟩
     ·exact hi.elim
    ·cases hc
   ·cases hc
  ·cases hc
 | block id c ih=>
  intro hs eM ic hc ho K f h hi
  simp only [dB] at hc
  split at hc
  ·rename_i a fO ha
   simp at hc
   obtain ⟨rfl,_⟩:=hc
   obtain ⟨e,bR,h₁,r1,r2⟩:=ih ha (ho.imp (λh=>h) λh=>h) hi
   refine ⟨_,bR,h₁,r1.block,?_⟩
   cases e with
   | exit i=>
    simp only [bk] at r2⊢
    split <;> rename_i h
    ·rw [if_pos h] at r2;exact r2
    ·rw [if_neg h] at r2;exact r2
   | _=>exact r2
  ·cases hc
 | loop c ih=>
  intro hs eM ic hc ho K f h hi
  simp only [dB] at hc
  split at hc
  ·rename_i ks ls fO
   split at hc
   ·rename_i a iv ha
    simp at hc
    obtain ⟨rfl,_⟩:=hc
    obtain ⟨J,μ,h0,Gt⟩:=hi
    have key:∀(n:Nat) (xs:List Value) (hh:ae),μ xs hh=n->J xs hh->∃e f' h',kL P N out c (gI (ks++ls) (ks.map f++xs)) hh e f' h'/\K e f' h':=by
     intro n
     induction n using Nat.strongRecOn with
     | _ n mO=>
      intro xs hh hn hJ
      obtain ⟨e,bR,h₁,r1,r2⟩:=ih ha (ho.imp (λh=>h) λh=>h) (Gt xs hh hJ)
      by_cases he:e=.normal
      ·subst he
       obtain ⟨hk,FV,ar⟩:=r2
       obtain ⟨e',f',h',s1,s2⟩:=mO (μ (ls.map bR) h₁) (by omega) (ls.map bR) h₁ rfl FV
       refine ⟨e',f',h',kL.next r1 (s1.weaken ?_),s2⟩
       rw [<-hk]
       exact Bq bR ks ls _ rfl
      ·refine ⟨e,bR,h₁,kL.leave he r1,?_⟩
       cases e <;> first | exact absurd rfl he | exact r2
    obtain ⟨e,f',h',s1,s2⟩:=key _ (ls.map f) h rfl h0
    exact ⟨e,f',h',(s1.weaken (Bq f ks ls _ rfl)).run,s2⟩
   ·cases hc
  ·cases hc
 | exit id=>
  intro hs eM ic hc ho K f h hi
  simp [dB] at hc
  obtain ⟨rfl,_⟩:=hc
  exact ⟨.exit id,f,h,λS hS B ρ a w R=>wpIn_exit ⟨rfl,ρ,R,Tr.refl R.heap⟩,hi⟩
 | ret=>
  intro hs eM ic hc ho K f h hi
  simp [dB] at hc
  obtain ⟨rfl,_⟩:=hc
  exact ⟨.ret,f,h,λS hS B ρ a w R=>wpIn_ret ⟨rfl,ρ,R,Tr.refl R.heap⟩,hi⟩
 | rangeFunc g ps gE body=>
  intro hs eM ic hc ho K f h hi
  have ho:out=true:=ho.resolve_right (by simp [eU])
  subst ho
  simp only [dB] at hc
  split at hc
  ·rename_i ls fO
   split at hc
   ·rename_i hk
    simp at hc
    obtain ⟨rfl,_⟩:=hc
    simp only [and_eq_true] at hk
    obtain ⟨h',r1,r2⟩:=W9 hk.1 hi
    exact ⟨.normal,f,h',r1,r2⟩
   ·cases hc
  ·cases hc
 | _=>intro hs eM ic hc;simp [dB] at hc
end
end
section
section
variable {P : Program} {ρ : aD} {h : ae} {w : World}
def uc:List Tmp->List Value->(Nat->Value)->Nat->Value
 | p::ps,v::vs,f=>uc ps vs (qb f p v)
 | _,_,f=>f
theorem Wm {N:Nat}:∀{ps:List Tmp} {args args':List Value} {f:Nat->Value} {tmps:Array Value},bg ρ args args'->(∀p∈ps,p<N)->tmps.size=N->(∀t,au ρ (f t) (tmps.getD t Go.undef))->
  ((ps.zip args').foldl (λ(t:Array Value) (p,v)=>t.setIfInBounds p v) tmps).size=N/\
   ∀t,au ρ (uc ps args f t) (((ps.zip args').foldl (λ(t:Array Value) (p,v)=>t.setIfInBounds p v) tmps).getD t Go.undef)
 | [],args,args',f,tmps,_,_,hs,hf=>⟨hs,hf⟩
 | p::ps,_,_,f,tmps,.nil,_,hs,hf=>⟨hs,hf⟩
 | p::ps,_,_,f,tmps,.cons (x:=x) (y:=y) ha hr,hp,hs,hf=>by
  simp only [List.zip_cons_cons,List.foldl_cons,uc]
  refine Wm hr (λq hq=>hp q (by simp [hq])) (by simpa using hs) ?_
  intro t
  simp only [m7]
  by_cases ht:t=p
  ·subst ht
   have:t<tmps.size:=by rw [hs];exact hp t (by simp)
   simp [Array.getD,this]
   exact ha
  ·rw [if_neg ht]
   have e:(tmps.setIfInBounds p y).getD t Go.undef=tmps.getD t Go.undef:=by
    simp only [Array.getD_eq_getD_getElem?,Array.getElem?_setIfInBounds]
    rw [if_neg (by omega)]
   rw [e]
   exact hf t
theorem marks.put {B:Nat} {l:Nat} {o:Obj}:∀{ds:List Deferred},(∀d∈ds,d≠mark l)->marks B ds w->marks B ds (w.putObj l o)
 | [],_,h=>by simpa [marks] using h
 | d::ds,aU,⟨⟨D,h1,h2,h3,h4⟩,h5⟩=>by
  refine ⟨⟨D,h1,h2,?_,h4⟩,marks.put (λd hd=>aU d (by simp [hd])) h5⟩
  rw [r7]
  ·exact h3
  ·rintro rfl
   exact aU d (by simp) h1
theorem marks.ne {B l:Nat} {rec:Loop} (hl:w.heap[l]?=some (.loop rec)):∀{ds:List Deferred},marks B ds w->∀d∈ds,d≠mark l
 | [],_,d,hd=>by simp at hd
 | d::ds,⟨⟨D,h1,h2,h3,h4⟩,h5⟩,d',hd=>by
  rcases mem_cons.1 hd with rfl | hd
  ·rintro e
   rw [h1] at e
   obtain rfl:=Sy e
   rw [hl] at h3
   cases h3
  ·exact marks.ne hl h5 d' hd
theorem SM {aq:aD} {h':ae} {w':World} (H':aL P aq h' w') (T:Tr ρ h w aq h' w') {l:Nat} {rec:Loop} (ar:l<w.heap.size) (hl:w'.heap[l]?=some (.loop rec))
  (no:∀j s,ρ j=some s->s.aY=l->¬bH h j):∀j s,aq j=some s->s.aY=l->¬cZ h' j:=by
 intro j s hj hs hv
 obtain ⟨c,ls,vs,hc⟩:=H'.R8 hl hj hs hv
 cases hr:ρ j with
 | some s'=>
  have:=T.ext j s' hr
  rw [hj] at this
  cases this
  exact no j s hr hs (T.kinds j (T.fK j s hr) (.inr (.inr (.inl ⟨_,_,_,hc⟩))))
 | none=>
  obtain ⟨_,q⟩:=T.fresh j s hj hr
  rcases q with q | ⟨j',s',q1,q2,q3⟩
  ·omega
  ·exact no j' s' q1 (q2.trans hs) q3
theorem aL.B4 (H:aL P ρ h w) {i:Nat} {r:RI} {o:ax} {x:Obj} (hi:ρ i=some r) (no:∀j s,ρ j=some s->s.aY=r.aY->¬cZ h j) (ho:iN ρ (w.putObj r.aY x) r o):
  aL P ρ (h.set i o) (w.putObj r.aY x):=by
 have ar:=H.lt hi
 have ml:∀j,j≠i->bH (h.set i o) j->bH h j:=by
  intro j e hm
  unfold bH at hm⊢
  rw [getElem?_set_ne (Ne.symm e)] at hm
  exact hm
 have ll:∀j,j≠i->cZ (h.set i o) j->cZ h j:=by
  intro j e hm
  unfold cZ at hm⊢
  rw [getElem?_set_ne (Ne.symm e)] at hm
  exact hm
 refine ⟨?_,?_,H.aT⟩
 ·intro j s hj
  by_cases e:j=i
  ·subst e
   rw [hi] at hj
   cases hj
   exact ⟨o,by rw [getElem?_set_self ar],ho⟩
  ·obtain ⟨o',cr,hr⟩:=H.obj j s hj
   refine ⟨o',by rw [getElem?_set_ne (Ne.symm e)];exact cr,?_⟩
   by_cases hd:o'=.dead
   ·subst hd;trivial
   ·refine hr.mono (.refl _) (r7 ?_)
    intro e'
    exact no j s hj e' ⟨o',cr,hd⟩
 ·intro a b s t ha hb dI hm hl
  by_cases ea:a=i <;> by_cases eb:b=i
  ·omega
  ·subst ea
   rw [hi] at ha;cases ha
   exact absurd (ll b eb hl) (no b t hb dI.symm)
  ·subst eb
   rw [hi] at hb;cases hb
   exact absurd (ml a ea hm).live (no a s ha dI)
  ·exact H.inj a b s t ha hb dI (ml a ea hm) (ll b eb hl)
theorem Tr.B4 {aq:aD} {h':ae} {w':World} {i:Nat} (hm:bH h i) (T:Tr ρ (h.set i .dead) w aq h' w') (o:ax):Tr ρ h w aq (h'.set i o) w':=by
 have ml:∀j,bH (h.set i .dead) j->bH h j:=by
  intro j hj
  by_cases e:j=i
  ·subst e;exact hm
  ·unfold bH at hj⊢
   rw [getElem?_set_ne (Ne.symm e)] at hj
   exact hj
 exact {
  ext:=T.ext
  len:=by simpa using T.len
  fK:=λj s hj=>by simpa using T.fK j s hj
  kinds:=by
   intro j hj dH
   by_cases e:j=i
   ·subst e;exact hm
   ·refine ml j (T.kinds j (by simpa using hj) ?_)
    unfold bH at dH⊢
    rw [getElem?_set_ne (Ne.symm e)] at dH
    exact dH
  fresh:=by
   intro j s h1 h2
   obtain ⟨q1,q2⟩:=T.fresh j s h1 h2
   refine ⟨by simpa using q1,q2.imp (λh=>h) ?_⟩
   rintro ⟨j',s',a,b,c⟩
   exact ⟨j',s',a,b,ml j' c⟩
  eP:=T.eP
  ey:=λk hk cL=>T.ey k hk λj s hj hs hmm=>cL j s hj hs (ml j hmm)
  os:=T.os
  tape:=T.tape
  output:=T.output }
theorem Tr.Wq {i:Nat} {r:RI} (hd:∀j s,ρ j=some s->j<h.length) (hi:ρ i=some r) {h₁:ae} (hl:h₁.length=h.length) (hm:bH h₁ i) (x:Obj):Tr ρ h₁ w ρ h₁ (w.putObj r.aY x) where
 ext:=.refl _
 len:=le_refl _
 fK:=λj s hj=>by rw [hl];exact hd j s hj
 kinds:=λ_ _ h=>h
 fresh:=λj s h1 h2=>by rw [h1] at h2;cases h2
 eP:=by rw [World.putObj_size];exact le_refl _
 ey:=λk hk cL=>r7 λe=>cL i r hi e.symm hm
 os:=rfl
 tape:=rfl
 output:=rfl
theorem apj {h:ae} {i:Nat} {o:ax} (hi:h[i]?=some o):h.set i o=h:=by
 apply List.ext_getElem?
 intro j
 by_cases e:j=i
 ·subst e
  rw [getElem?_set_self (ba hi).1,hi]
 ·rw [getElem?_set_ne (Ne.symm e)]
theorem arp {i:Nat} {c:uP} {ls:List Nat} {vs args:List Value} {ia ib:dc} {fO iv aie aif:Hints} {K:Value->ae->Prop} (hi:h[i]?=some (.loop c ls vs)) (hn:args.length=c.ps.size)
  (tB:c.ps.all (·<c.N)=true) (ha:dB P c.N c.gE fO=some (ia,aie)) (hb:dB P c.N c.body iv=some (ib,aif)) (na:eU c.gE=true) (nb:eU c.body=true)
  (hw:fx P ia (λe f1 h1=>e=.normal/\h1[i]?=some .dead/\fx P ib (λe _ h2=>e=.normal/\h2[i]?=some .dead/\K (.bool true) (h2.set i (.loop c ls vs))) f1 h1) (uc c.ps.toList args (gI ls vs)) (h.set i .dead)):
  wA P i args h K:=by
 obtain ⟨e1,f1,h1,r1,rfl,d1,wm⟩:=G1 (out:=false) ha (.inr na) hw
 obtain ⟨e2,f2,h2,r2,rfl,d2,hk⟩:=G1 (out:=false) hb (.inr nb) wm
 refine ⟨.bool true,h2.set i (.loop c ls vs),?_,hk⟩
 intro ρ r args' w jJ mj H
 have Re:bH h i:=.inr (.inr (.inl ⟨_,_,_,hi⟩))
 obtain ⟨o,ho,rr⟩:=H.obj i r jJ
 rw [hi] at ho
 cases ho
 obtain ⟨rec,g1,g2,g3,g4,g5,g6,g7,g8⟩:=rr
 have ar:=(Array.getElem?_eq_some_iff.1 g1).1
 have jK:args'.size=rec.params.size:=by
  have:=mj.length
  rw [g6,<-hn,this]
  simp
 refine ⟨rec.fn,_,rec.assign,rec.body,run_yield g1 jK,?_⟩
 rw [g4,g5]
 have vK:(rec.params.zip args').foldl (λ(t:Array Value) (p,v)=>t.setIfInBounds p v) rec.tmps=(c.ps.toList.zip args'.toList).foldl (λ(t:Array Value) (p,v)=>t.setIfInBounds p v) rec.tmps:=by
  rw [g6,<-Array.toList_zip,Array.foldl_toList]
 obtain ⟨p1,p2⟩:=Wm (N:=c.N) (ps:=c.ps.toList) (f:=gI ls vs) (tmps:=rec.tmps) mj (by
  intro p hp
  rw [Array.all_eq_true'] at tB
  exact of_decide_eq_true (tB p (by simpa using hp))) g7 g8
 have R0:cP P c.N w.heap.size ρ (uc c.ps.toList args (gI ls vs)) (h.set i .dead) { tmps:=(rec.params.zip args').foldl (λ(t:Array Value) (p,v)=>t.setIfInBounds p v) rec.tmps,defers:=[] } w:=
  ⟨by rw [vK];exact p1,le_refl _,λt=>by rw [vK];exact p2 t,H.kill i⟩
 refine roundIn_of_wpIn (F:=Fence.wide) trivial ?_
 refine wpIn_mono (r1 (some r.aY) (λh=>by cases h) _ ρ _ w R0) ?_
 rintro e a1 w1 ⟨rfl,kJ,R1,T1⟩
 have u1:∀j s,ρ j=some s->s.aY=r.aY->¬bH (h.set i .dead) j:=by
  intro j s hj hs hm
  by_cases e:j=i
  ·subst e
   unfold bH at hm
   rw [getElem?_set_self (H.lt jJ)] at hm
   rcases hm with ⟨_,_,h1⟩ | ⟨_,h1⟩ | ⟨_,_,_,h1⟩ | ⟨_,_,h1⟩ | ⟨_,_,_,h1⟩ | ⟨_,_,_,_,h1⟩ <;> cases h1
  ·refine e (H.inj j i s r hj jJ hs ?_ Re.live)
   unfold bH at hm⊢
   rw [getElem?_set_ne (Ne.symm e)] at hm
   exact hm
 have l1:w1.heap[r.aY]?=some (.loop rec):=(T1.ey _ ar u1).trans g1
 have nL:=(Array.getElem?_eq_some_iff.1 l1).1
 refine ⟨_,run_beginRound l1 g2,?_⟩
 have Hv:=SM R1.heap T1 ar l1 u1
 have l2:(w1.putObj r.aY (.loop { rec with state:=.busy })).heap[r.aY]?=some (.loop { rec with state:=.busy }):=World.putObj_heap_same nL
 have R2:cP P c.N w.heap.size kJ f1 h1 a1 (w1.putObj r.aY (.loop { rec with state:=.busy })):=
  ⟨R1.size,marks.put (marks.ne l1 R1.defers) R1.defers,R1.tmp,R1.heap.put Hv _⟩
 refine wpIn_mono (r2 (some r.aY) (λh=>by cases h) _ kJ a1 _ R2) ?_
 rintro e a3 w3 ⟨rfl,Le,R3,T3⟩
 have l3:w3.heap[r.aY]?=some (.loop { rec with state:=.busy }):=(T3.ey _ (by simpa using nL) λj s hj hs hm=>Hv j s hj hs hm.live).trans l2
 have no3:=SM R3.heap T3 (by simpa using nL) l3 λj s hj hs hm=>Hv j s hj hs hm.live
 have ah8:({ ({ rec with state:=.busy }:Loop) with state:=if (none:Option Code).isNone then .ready else .done,pending:=none }:Loop)=rec:=by
  cases rec
  simp only at g2 g3
  subst g2
  subst g3
  rfl
 have he:=run_endRound (P:=P) none l3
 rw [ah8] at he
 have GC:kJ i=some r:=T1.ext _ _ jJ
 have GD:Le i=some r:=T3.ext _ _ GC
 have ahy:=(Array.getElem?_eq_some_iff.1 l3).1
 refine ⟨_,_,he,.bool true,Le,rfl,.bool _,?_,?_⟩
 ·refine R3.heap.B4 GD no3 ⟨rec,World.putObj_heap_same ahy,g2,g3,g4,g5,g6,g7,λt=>(g8 t).mono (T1.ext.trans T3.ext)⟩
 ·have m1:bH (h1.set i (.loop c ls vs)) i:=.inr (.inr (.inl ⟨c,ls,vs,getElem?_set_self (R1.heap.lt GC)⟩))
  have m3:bH (h2.set i (.loop c ls vs)) i:=.inr (.inr (.inl ⟨c,ls,vs,getElem?_set_self (R3.heap.lt GD)⟩))
  have A:=T1.B4 Re (.loop c ls vs)
  have B:=Tr.Wq (w:=w1) (λj s hj=>R1.heap.lt hj) GC (h₁:=h1.set i (.loop c ls vs)) (by simp) m1 (.loop { rec with state:=.busy })
  have e1:(h1.set i (.loop c ls vs)).set i .dead=h1:=by rw [List.set_set,apj d1]
  have C:Tr kJ (h1.set i (.loop c ls vs)) _ Le (h2.set i (.loop c ls vs)) w3:=Tr.B4 m1 (by rw [e1];exact T3) _
  have D:=Tr.Wq (w:=w3) (λj s hj=>R3.heap.lt hj) GD (h₁:=h2.set i (.loop c ls vs)) (by simp) m3 (.loop rec)
  exact ((A.trans B).trans C).trans D
end
end
section
inductive gL where
 | tmp (t:Nat)
 | cell (agg:Bool) (n:Nat) (a:Nat)
def pX (r:gL) (f:Nat->Value) (h:ae):Option Value:=
 match r with
 | .tmp t=>some (f t)
 | .cell agg n a=>af agg n h (f a)
def ka:List gL->(Nat->Value)->ae->Option (List Value)
 | [],_,_=>some []
 | r::rs,f,h=>match pX r f h,ka rs f h with
  | some v,some vs=>some (v::vs)
  | _,_=>none
def pack:List Value->Value
 | [v]=>v
 | vs=>.tuple vs.toArray
def pa:List gL->(Nat->Value)->ae->(List Value->Prop)->Prop
 | [],_,_,k=>k []
 | .tmp t::rs,f,h,k=>pa rs f h λvs=>k (f t::vs)
 | .cell agg n a::rs,f,h,k=>dK (af agg n h (f a)) λv=>pa rs f h λvs=>k (v::vs)
def B1 (rs:List gL) (K:Value->ae->Prop) (f:Nat->Value) (h:ae):Prop:=pa rs f h λvs=>K (pack vs) h
theorem B2:∀{rs:List gL} {f:Nat->Value} {h:ae} {k:List Value->Prop},pa rs f h k->∃vs,ka rs f h=some vs/\k vs
 | [],f,h,k,hr=>⟨[],rfl,hr⟩
 | .tmp t::rs,f,h,k,hr=>by
  obtain ⟨vs,h1,h2⟩:=B2 (rs:=rs) hr
  exact ⟨f t::vs,by simp [ka,pX,h1],h2⟩
 | .cell agg n a::rs,f,h,k,hr=>by
  simp only [pa,dK] at hr
  split at hr
  ·rename_i v hv
   obtain ⟨vs,h1,h2⟩:=B2 (rs:=rs) hr
   exact ⟨v::vs,by simp [ka,pX,h1,hv],h2⟩
  ·exact hr.elim
def Em (rs:List gL) (K:Value->ae->Prop):Exit->(Nat->Value)->ae->Prop
 | .normal,f,h=>B1 rs K f h
 | .ret,f,h=>B1 rs K f h
 | _,_,_=>False
def bG (args:List Value):Nat->Value:=λj=>args.getD j undef
def zW (P:Program):ResultVar->Option gL
 | .tmp t=>some (.tmp t)
 | .cell a t=>
  match P.underlying t with
  | some d=>if fk P t&&(jN d||P.cellsOf t==1) then some (.cell (jN d) (P.cellsOf t) a) else none
  | none=>none
def sT (P:Program):List ResultVar->Option (List gL)
 | []=>some []
 | r::rs=>match zW P r,sT P rs with
  | some x,some xs=>some (x::xs)
  | _,_=>none
def bJ (P:Program) (F:FuncId) (hs:Hints):Option (Nat×dc×List gL):=
 match P.funcs[F]? with
 | some fn=>match fn.body with
  | some c=>match dB P fn.ntmps c hs,sT P fn.results.toList with
   | some (ic,_),some rs=>some (fn.ntmps,ic,rs)
   | _,_=>none
  | none=>none
 | none=>none
def bU:Option (Nat×dc×List gL)->dc
 | some (_,c,_)=>c
 | none=>.skip
def dc.l:dc->dc
 | .seq a _=>a
 | .cut _ c=>c
 | .cond _ a _=>a
 | .block _ c=>c
 | .loop _ _ c=>c
 | c=>c
def dc.r:dc->dc
 | .seq _ b=>b
 | .cond _ _ b=>b
 | c=>c
section
variable {P : Program} {w : World} {ρ : aD} {h : ae}
def sf (tmps:Array Value):ResultVar->Sem Value
 | .tmp t=>pure (tmps.getD t Go.undef)
 | .cell b t=>do loadVar t (<-asAddr (tmps.getD b Go.undef))
theorem aoh (fn:Func) (tmps:Array Value):results fn tmps=(do let vs <-fn.results.mapM (sf tmps);pure (if h:vs.size=1 then vs[0] else .tuple vs)):=by
 have e:(λr:ResultVar=>(match r with
   | .tmp t=>(pure (tmps.getD t Go.undef):Sem Value)
   | .cell a t=>do loadVar t (<-asAddr (tmps.getD a Go.undef))))=sf tmps:=by
  funext r
  cases r <;> rfl
 rw [<-e]
 rfl
theorem ao9 {N B:Nat} {f:Nat->Value} {a:Act} (R:cP P N B ρ f h a w) {r:ResultVar} {x:gL} (hc:zW P r=some x) {v:Value} (hv:pX x f h=some v):
  ∃v',(sf a.tmps r).run P w=.ok v' w/\au ρ v v':=by
 cases r with
 | tmp t=>
  simp [zW] at hc;subst hc
  simp [pX] at hv;subst hv
  exact ⟨_,rfl,R.tmp t⟩
 | cell b t=>
  simp only [zW] at hc
  split at hc
  ·rename_i d ht
   split at hc
   ·rename_i hk
    simp at hc;subst hc
    simp only [and_eq_true] at hk
    simp only [pX] at hv
    obtain ⟨v',q1,q2⟩:=Xn R.heap ht hk.1 hv (R.tmp b)
    refine ⟨v',?_,q2⟩
    have jL:=hv
    unfold af at jL
    split at jL
    ·rename_i i o hfb
     have:=R.tmp b
     rw [hfb] at this
     obtain ⟨r',_,e⟩:=this.w4
     simp only [sf]
     rw [e] at q1⊢
     simpa [Instr.loadAt,Instr.sureAddr,asAddr] using q1
    ·cases jL
   ·cases hc
  ·cases hc
theorem Xt {α β:Type} (g:α->Sem β) (w:World):∀{xs:List α} {ys:List β},(∀(k:Nat) (x:α),xs[k]?=some x->∃y,ys[k]?=some y/\(g x).run P w=.ok y w)->xs.length=ys.length->(xs.mapM g).run P w=.ok ys w
 | [],[],_,_=>rfl
 | x::xs,y::ys,h,hl=>by
  obtain ⟨y',h1,h2⟩:=h 0 x rfl
  simp at h1;subst h1
  have ih:=Xt g w (xs:=xs) (ys:=ys) (λk a hk=>by simpa using h (k+1) a (by simpa using hk)) (by simpa using hl)
  simp only [List.mapM_cons,Sem.run_bind,h2,Result.andThen_ok,ih,Sem.run_pure]
theorem Xv {N B:Nat} {f:Nat->Value} {a:Act} (R:cP P N B ρ f h a w):∀{l:List ResultVar} {rs:List gL} {vs:List Value},sT P l=some rs->ka rs f h=some vs->
  ∃fU:List Value,bg ρ vs fU/\l.length=fU.length/\∀(k:Nat) (r:ResultVar),l[k]?=some r->∃y,fU[k]?=some y/\(sf a.tmps r).run P w=.ok y w
 | [],rs,vs,hc,hv=>by
  simp [sT] at hc;subst hc
  simp [ka] at hv;subst hv
  exact ⟨[],.nil,rfl,λk r hk=>by simp at hk⟩
 | r::l,rs,vs,hc,hv=>by
  simp only [sT] at hc
  split at hc
  ·rename_i x xs h1 h2
   simp at hc;subst hc
   simp only [ka] at hv
   split at hv
   ·rename_i v vs h3 h4
    simp at hv;subst hv
    obtain ⟨v',q1,q2⟩:=ao9 R h1 h3
    obtain ⟨fU,s1,s2,s3⟩:=Xv R h2 h4
    refine ⟨v'::fU,.cons q2 s1,by simp [s2],?_⟩
    intro k r' hk
    cases k with
    | zero=>simp at hk;subst hk;exact ⟨v',rfl,q1⟩
    | succ k=>simpa using s3 k r' (by simpa using hk)
   ·cases hv
  ·cases hc
theorem Xx {N B:Nat} {f:Nat->Value} {a:Act} (R:cP P N B ρ f h a w) {fn:Func} {rs:List gL} {vs:List Value} (hc:sT P fn.results.toList=some rs) (hv:ka rs f h=some vs):
  ∃v',(results fn a.tmps).run P w=.ok v' w/\au ρ (pack vs) v':=by
 obtain ⟨fU,h1,h2,h3⟩:=Xv R hc hv
 have hm:=Xt (P:=P) (sf a.tmps) w h3 h2
 have fv:(fn.results.mapM (sf a.tmps)).run P w=.ok fU.toArray w:=by
  rw [Array.mapM_eq_mapM_toList]
  simp only [Sem.run_map,hm,Result.andThen_ok]
 refine ⟨if h:fU.toArray.size=1 then fU.toArray[0] else .tuple fU.toArray,?_,?_⟩
 ·rw [aoh]
  simp only [Sem.run_bind,fv,Result.andThen_ok,Sem.run_pure]
 ·cases h1 with
  | nil=>simpa [pack] using au.lV (ρ:=ρ) .nil
  | cons a1 a2=>
   cases a2 with
   | nil=>simpa [pack] using a1
   | cons b1 b2=>simpa [pack] using au.lV (.cons a1 (.cons b1 b2))
theorem Ql {args:List Value} {args':Array Value} (hv:bg ρ args args'.toList) (N:Nat) (t:Nat):au ρ (bG args t) ((args'++replicate (N-args'.size) Go.undef).getD t Go.undef):=by
 unfold bG
 have hl:=hv.length
 by_cases ht:t<args.length
 ·obtain ⟨y,hy,hr⟩:=hv.get (k:=t) (x:=args[t]) (getElem?_eq_getElem ht)
  have hs:t<args'.size:=by simpa using (by omega:t<args'.toList.length)
  have e1:args.getD t undef=args[t]:=by simp [getD,ht]
  rw [e1,Array.getD_eq_getD_getElem?,Array.getElem?_append_left hs]
  simp only [getElem?_toList] at hy
  rw [hy]
  exact hr
 ·have e1:args.getD t undef=undef:=by simp [getD,le_of_not_lt ht]
  have e2:(args'++replicate (N-args'.size) Go.undef).getD t Go.undef=undef:=by
   have hs:¬t<args'.size:=by simp at hl;omega
   rw [Array.getD_eq_getD_getElem?,Array.getElem?_append_right (by omega)]
   by_cases h2:t-args'.size<N-args'.size
   ·simp [h2]
   ·simp [h2]
  rw [e1,e2]
  exact au.undef _
theorem Tr.akk {aq:aD} {h':ae} {w':World} (T:Tr ρ h w aq h' w') {l:Nat} (hl:w.heap.size<=l) (o:Obj):Tr ρ h w aq h' (w'.putObj l o) where
 ext:=T.ext
 len:=T.len
 fK:=T.fK
 kinds:=T.kinds
 fresh:=T.fresh
 eP:=by rw [World.putObj_size];exact T.eP
 ey:=λk hk cL=>by rw [r7 (by omega)];exact T.ey k hk cL
 os:=T.os
 tape:=T.tape
 output:=T.output
theorem G7 {aq:aD} {h':ae} {fn:Func} {tmps:Array Value} {Q:Ending->World->Prop}:∀{ds:List Deferred} {w':World},marks w.heap.size ds w'->aL P aq h' w'->Tr ρ h w aq h' w'->
  (∀gq,aL P aq h' gq->Tr ρ h w aq h' gq->∃v,(results fn tmps).run P gq=.ok v gq/\Q (.returned v) gq)->LeavesInM Fence.wide 0 P fn tmps Q ds .returning w'
 | [],w',_,H,T,hq=>hq w' H T
 | d::ds,w',⟨⟨D,h1,h2,h3,h4⟩,h5⟩,H,T,hq=>by
  refine ⟨by simp,.inl ⟨D,_,by rw [h1];rfl,run_takeDeferred h3,?_⟩⟩
  exact G7 (marks.put (λd hd=>h4 d hd) h5) (H.put (λj s hj hs=>H.Hx h3 hj hs) _) (T.akk h2 _) hq
theorem RL {F:FuncId} {N:Nat} {ic:dc} {rs:List gL} {hs:Hints} (hc:bJ P F hs=some (N,ic,rs)) {args:List Value} (ha:args.length<=N) {K:Value->ae->Prop}
  (hi:fx P ic (Em rs K) (bG args) h):lN P F args h K:=by
 unfold bJ at hc
 split at hc
 ·rename_i fn hf
  split at hc
  ·rename_i c hb
   split at hc
   ·rename_i ic' _ JN h1 h2
    simp at hc
    obtain ⟨hN,rfl,rfl⟩:=hc
    obtain ⟨e,f',h',r1,r2⟩:=G1 (out:=true) h1 (.inl rfl) hi
    have mH:(e=.normal∨e=.ret)/\B1 JN K f' h':=by
     cases e <;> first | exact ⟨.inl rfl,r2⟩ | exact ⟨.inr rfl,r2⟩ | exact r2.elim
    obtain ⟨he,mH⟩:=mH
    obtain ⟨vs,wg,mH⟩:=B2 mH
    ·refine ⟨pack vs,h',?_,mH⟩
     intro ρ args' w hv H
     refine callsIn_wide.1 (callsIn_of_wp_marks (F:=Fence.wide) (n:=0) hf hb trivial ?_ rfl)
     have jK:args'.size=args.length:=by have:=hv.length;simpa using this.symm
     have R:cP P fn.ntmps w.heap.size ρ (bG args) h { tmps:=args'++replicate (fn.ntmps-args'.size) Go.undef,defers:=[] } w:=⟨by simp;omega,le_refl _,Ql hv fn.ntmps,H⟩
     refine wpIn_mono (r1 none (λ_=>rfl) _ ρ _ w R) ?_
     rintro e' a' w' ⟨rfl,aq,R',T⟩
     have key:LeavesInM Fence.wide 0 P fn a'.tmps (λe w'=>∃v' aq,e=.returned v'/\au aq (pack vs) v'/\aL P aq h' w'/\Tr ρ h w aq h' w') a'.defers .returning w':=by
      refine G7 R'.defers R'.heap T ?_
      intro gq uN nm
      have jV:cP P fn.ntmps 0 aq f' h' { a' with defers:=[] } gq:=⟨R'.size,Nat.zero_le _,R'.tmp,uN⟩
      obtain ⟨v',q1,q2⟩:=Xx jV h2 wg
      exact ⟨v',q1,v',aq,rfl,q2,uN,nm⟩
     rcases he with rfl | rfl
     ·exact key
     ·exact key
   ·cases hc
  ·cases hc
 ·cases hc
theorem aiL {F:FuncId} {args:List Value} {h:ae} {v:Value} (hi:lN P F args h λu _=>u=v) {ρ:aD} {args':Array Value} {w:World} (hv:bg ρ args args'.toList) (H:aL P ρ h w)
  (iJ:∀i,¬bH h i):Calls P F args' w λe w'=>(∃v' aq,e=.returned v'/\au aq v v')/\RowKit.Below w.heap.size w w':=by
 obtain ⟨u,h',hc,rfl⟩:=hi
 refine (hc ρ args' w hv H).mono ?_
 rintro e w' ⟨v',aq,rfl,h1,_,T⟩
 exact ⟨⟨v',aq,rfl,h1⟩,⟨T.os,T.tape,T.output,T.eP,λk hk=>T.ey k hk λj s _ _ hm=>iJ j hm⟩⟩
end
end
section
abbrev VK:=Value->ae->Prop
abbrev LQ:=List Value->ae->Prop
abbrev gm (a n:Nat):fC:=⟨some a,.p (.mv (.tmp n))⟩
abbrev gd (a n m:Nat):gD:=⟨some a,.p (.mv (.tmp n)),m⟩
abbrev ci (n:Int):Operand:=.const (.int .i64 n)
inductive OP (o:Option Value) (K:Value->Prop):Prop | mk:dK o K->OP o K
inductive OH (o:Option (Value×ae)) (K:Value->ae->Prop):Prop | mk:jc o K->OH o K
inductive aK (c:Value) (a b:Prop):Prop | mk:kz c a b->aK c a b
inductive b7 (v:Value) (b:Bool) (A B:Prop):Prop | mk:gO v b A B->b7 v b A B
inductive ay (Q:(Nat->Value)->ae->Prop) (ls:List Nat) (vs:List Value) (h:ae):Prop | mk:sV Q ls vs h->ay Q ls vs h
inductive bM (init:List Value) (h:ae) (Q:(List Value->ae->Prop)->List Value->ae->Prop):Prop | mk:rQ init h Q->bM init h Q
inductive aw (P:Program) (F:FuncId) (args:List Value) (h:ae) (K:Value->ae->Prop):Prop | mk:lN P F args h K->aw P F args h K
inductive nj (P:Program) (x:Value) (args:List Value) (h:ae) (K:Value->ae->Prop):Prop | mk:nv P x args h K->nj P x args h K
inductive sO (P:Program) (g:Value) (ls:List Nat) (vs:List Value) (c:uP) (h:ae) (K:ae->Prop):Prop | mk:nT P g ls vs c h K->sO P g ls vs c h K
theorem MF:sO=nT:=funext λ_=>funext λ_=>funext λ_=>funext λ_=>funext λ_=>funext λ_=>funext λ_=>propext ⟨λ⟨h⟩=>h,.mk⟩
theorem sN:OP=dK:=funext λ_=>funext λ_=>propext ⟨λ⟨h⟩=>h,.mk⟩
theorem yQ:OH=jc:=funext λ_=>funext λ_=>propext ⟨λ⟨h⟩=>h,.mk⟩
theorem Ly:aK=kz:=funext λ_=>funext λ_=>funext λ_=>propext ⟨λ⟨h⟩=>h,.mk⟩
theorem CK:b7=gO:=funext λ_=>funext λ_=>funext λ_=>funext λ_=>propext ⟨λ⟨h⟩=>h,.mk⟩
theorem uM:ay=sV:=funext λ_=>funext λ_=>funext λ_=>funext λ_=>propext ⟨λ⟨h⟩=>h,.mk⟩
theorem MD:bM=rQ:=funext λ_=>funext λ_=>funext λ_=>propext ⟨λ⟨h⟩=>h,.mk⟩
theorem pw:aw=lN:=funext λ_=>funext λ_=>funext λ_=>funext λ_=>funext λ_=>propext ⟨λ⟨h⟩=>h,.mk⟩
theorem CI:nj=nv:=funext λ_=>funext λ_=>funext λ_=>funext λ_=>funext λ_=>propext ⟨λ⟨h⟩=>h,.mk⟩
theorem YY (Q:(Nat->Value)->ae->Prop) (ls:List Nat) (vs:List Value) (h:ae):ay Q ls vs h=Q (gI ls vs) h:=by
 rw [uM]
 rfl
theorem az {Q:(Nat->Value)->ae->Prop} {ls:List Nat} {vs:List Value} {h:ae} {A:Prop} (e:Q (gI ls vs) h=A):ay Q ls vs h=A:=(YY _ _ _ _).trans e
def w5 (o:kM) (g:Operand->Value) (k:Value->Prop):Prop:=
 match o with
 | .mv x=>k (g x)
 | .Ba n=>k (.int .i64 n)
 | .fn f a b=>k (.func (.func f) (a.map g).toArray (b.map g).toArray)
 | o=>OP (fH o g) k
theorem Jf (o:kM) (g:Operand->Value) (k:Value->Prop):w5 o g k=dK (fH o g) k:=by
 unfold w5
 split
 ·rfl
 ·rfl
 ·rfl
 ·rw [sN]
def kh (P:Program) (o:eI) (f:Nat->Value) (h:ae) (K:Value->ae->Prop):Prop:=
 match o with
 | .p o=>w5 o (ev f) λv=>K v h
 | .l o=>OP (dJ o (ev f) h) λv=>K v h
 | .e o=>OH (dY o (ev f) h) K
 | .call g args=>aw P g (args.map (ev f)) h K
 | .hK x args=>nj P (ev f x) (args.map (ev f)) h K
theorem apu (P:Program) (o:eI) (f:Nat->Value) (h:ae) (K:Value->ae->Prop):kh P o f h K=bY P o f h K:=by
 cases o <;> simp only [kh,bY,Jf,sN,yQ,pw,CI]
def vu (P:Program) (l:List fC) (K:(Nat->Value)->ae->Prop):(Nat->Value)->ae->Prop:=
 List.rec (motive:=λ_=>(Nat->Value)->ae->Prop) (λf h=>K f h) (λo _ ih f h=>kh P o.op f h λv h'=>ih (ck f o.dst v) h') l
theorem Qz (P:Program) (l:List fC) (K:(Nat->Value)->ae->Prop):∀(f:Nat->Value) (h:ae),vu P l K f h=pI P l K f h:=by
 induction l with
 | nil=>intro f h;rfl
 | cons o os ih=>
  intro f h
  show kh P o.op f h (λv h'=>vu P os K (ck f o.dst v) h')=_
  rw [apu,pI]
  congr 1
  funext v h'
  exact ih _ _
def HE (P:Program) (g:Option (Nat×Bool)) (l:List fC) (K:(Nat->Value)->ae->Prop) (f:Nat->Value) (h:ae):Prop:=
 match g with
 | none=>vu P l K f h
 | some (s,b)=>b7 (f s) b (vu P l K f h) (K (uv l f) h)
theorem alj (P:Program) (g:Option (Nat×Bool)) (l:List fC) (K:(Nat->Value)->ae->Prop) (f:Nat->Value) (h:ae):HE P g l K f h=mU P g l K f h:=by
 unfold HE mU
 split <;> simp only [Qz,CK]
abbrev Lw:=List (Nat×ae)->cX->Value->ae->Prop
def Ae (P:Program) (io:eI) (pre j:Nat) (aE:List (Nat×ae)) (aB:cX) (f:Nat->Value) (h:ae) (next:Lw):Prop:=
 match io with
 | .p po=>w5 po (ev f) λv=>next aE aB v h
 | .l lo=>OP (dJ lo (ev f) h) λv=>pA pre lo f v aE/\next aE (aB++[(j,lo,f,v)]) v h
 | .e (.fl a)=>OH (dY (.fl a) (ev f) h) λv h'=>OP (cF h' v) λu=>ik pre h' aB/\next (aE++[(j,h)]) (aB++[(j,.obj (.const v),f,u)]) v h'
 | .e eo=>OH (dY eo (ev f) h) λv h'=>ik pre h' aB/\next (aE++[(j,h)]) aB v h'
 | .call g args=>aw P g (args.map (ev f)) h λv h'=>ik pre h' aB/\next (aE++[(j,h)]) aB v h'
 | .hK x args=>nj P (ev f x) (args.map (ev f)) h λv h'=>ik pre h' aB/\next (aE++[(j,h)]) aB v h'
theorem aeS (P:Program) (io:eI) (pre j:Nat) (aE:List (Nat×ae)) (aB:cX) (f:Nat->Value) (h:ae) (next:Lw):
  Ae P io pre j aE aB f h next=hO P io pre j aE aB f h next:=by
 cases io with
 | e eo=>cases eo <;> simp only [Ae,hO,sN,yQ]
 | _=>simp only [Ae,hO,Jf,sN,pw,CI]
abbrev Lv:=List (Nat×ae)->cX->(Nat->Value)->ae->Prop
def vt (P:Program):List gD->Nat->List (Nat×ae)->cX->Lv->(Nat->Value)->ae->Prop
 | [],_,aE,aB,K,f,h=>K aE aB f h
 | o::os,j,aE,aB,K,f,h=>Ae P o.op o.pre j aE aB f h λaE aB v h'=>vt P os (j+1) aE aB K (ck f o.dst v) h'
theorem FG (P:Program):∀(l:List gD) (j:Nat) (aE:List (Nat×ae)) (aB:cX) (K:Lv) (f:Nat->Value) (h:ae),vt P l j aE aB K f h=j1 P l j aE aB K f h
 | [],_,_,_,_,_,_=>rfl
 | o::os,j,aE,aB,K,f,h=>by
  rw [vt,j1,aeS]
  congr 1
  funext aE aB v h'
  exact FG P os _ _ _ _ _ _
def nC (P:Program):List (Option (Nat×Bool)×List gD)->Nat->List (Nat×ae)->cX->((Nat->Value)->ae->Prop)->(Nat->Value)->ae->Prop
 | [],_,_,_,K,f,h=>K f h
 | (none,l)::gs,j,aE,aB,K,f,h=>vt P l j aE aB (λaE aB f h=>nC P gs (j+l.length) aE aB K f h) f h
 | (some (s,b),l)::gs,j,aE,aB,K,f,h=>
  b7 (f s) b (vt P l j aE aB (λaE aB f h=>nC P gs (j+l.length) aE aB K f h) f h)
   (oC l j aE aB (λaE aB f h=>nC P gs (j+l.length) aE aB K f h) f h)
theorem Ar (P:Program):∀(gs:List (Option (Nat×Bool)×List gD)) (j:Nat) (aE:List (Nat×ae)) (aB:cX) (K:(Nat->Value)->ae->Prop) (f:Nat->Value) (h:ae),
  nC P gs j aE aB K f h=jH P gs j aE aB K f h
 | [],_,_,_,_,_,_=>rfl
 | (none,l)::gs,j,aE,aB,K,f,h=>by
  have e:(λaE aB f h=>nC P gs (j+l.length) aE aB K f h)=λaE aB f h=>jH P gs (j+l.length) aE aB K f h:=by
   funext a b c d;exact Ar P gs _ _ _ _ _ _
  rw [nC,jH,FG,e]
 | (some (s,b),l)::gs,j,aE,aB,K,f,h=>by
  have e:(λaE aB f h=>nC P gs (j+l.length) aE aB K f h)=λaE aB f h=>jH P gs (j+l.length) aE aB K f h:=by
   funext a b c d;exact Ar P gs _ _ _ _ _ _
  rw [nC,jH,FG,e,CK]
noncomputable def ah (P:Program) (c:dc):aj->(Nat->Value)->ae->Prop:=
 dc.rec (motive:=λ_=>aj->(Nat->Value)->ae->Prop)
  (λK f h=>K .normal f h)
  (λl K f h=>nC P l 0 [] [] (K .normal) f h)
  (λg l K f h=>HE P g l (K .normal) f h)
  (λ_ _ ia ib K f h=>ia (aH (ib K) K) f h)
  (λls _ ic K f h=>ay (ic K) ls (ls.map f) h)
  (λc _ _ ia ib K f h=>aK (ev f c) (ia K f h) (ib K f h))
  (λid _ ic K f h=>ic (bk id K) f h)
  (λks ls _ ic K f h=>bM (ls.map f) h λL xs hx=>ay (ic (aH (λf' aJ=>ks.map f'=ks.map f/\L (ls.map f') aJ) K)) (ks++ls) (ks.map f++xs) hx)
  (λid K f h=>K (.exit id) f h)
  (λK f h=>K .ret f h)
  (λg ls c K f h=>sO P (ev f g) ls (ls.map f) c h (K .normal f)) c
theorem aje (P:Program) (c:dc):ah P c=fx P c:=by
 induction c with
 | skip=>rfl
 | Ad l=>funext K f h;exact Ar P l 0 [] [] (K .normal) f h
 | ops g l=>funext K f h;exact alj P g l (K .normal) f h
 | seq a b lO mN=>
  funext K f h
  show ah P a (aH (ah P b K) K) f h=fx P a (aH (fx P b K) K) f h
  rw [lO,mN]
 | cut ls c ih=>
  funext K f h
  show ay (ah P c K) ls (ls.map f) h=sV (fx P c K) ls (ls.map f) h
  rw [ih,uM]
 | cond c a b lO mN=>
  funext K f h
  show aK (ev f c) (ah P a K f h) (ah P b K f h)=kz (ev f c) (fx P a K f h) (fx P b K f h)
  rw [lO,mN,Ly]
 | block id c ih=>
  funext K f h
  show ah P c (bk id K) f h=fx P c (bk id K) f h
  rw [ih]
 | loop ks ls c ih=>
  funext K f h
  show bM (ls.map f) h (λL xs hx=>ay (ah P c (aH (λf' aJ=>ks.map f'=ks.map f/\L (ls.map f') aJ) K)) (ks++ls) (ks.map f++xs) hx)=
   rQ (ls.map f) h (λL xs hx=>fx P c (aH (λf' aJ=>ks.map f'=ks.map f/\L (ls.map f') aJ) K) (gI (ks++ls) (ks.map f++xs)) hx)
  rw [ih,MD,uM]
  rfl
 | exit id=>rfl
 | ret=>rfl
 | range g ls c=>
  funext K f h
  show sO P (ev f g) ls (ls.map f) c h (K .normal f)=nT P (ev f g) ls (ls.map f) c h (K .normal f)
  rw [MF]
def uf:List gL->(Nat->Value)->ae->(List Value->Prop)->Prop
 | [],_,_,k=>k []
 | .tmp t::rs,f,h,k=>uf rs f h λvs=>k (f t::vs)
 | .cell agg n a::rs,f,h,k=>OP (af agg n h (f a)) λv=>uf rs f h λvs=>k (v::vs)
theorem JI:∀(rs:List gL) (f:Nat->Value) (h:ae) (k:List Value->Prop),uf rs f h k=pa rs f h k
 | [],_,_,_=>rfl
 | .tmp _::rs,f,h,k=>JI rs f h _
 | .cell agg n a::rs,f,h,k=>by
  rw [uf,pa,sN]
  congr 1
  funext v
  exact JI rs f h _
def aX (rs:List gL) (K:Value->ae->Prop):aj
 | .normal,f,h=>uf rs f h λvs=>K (pack vs) h
 | .ret,f,h=>uf rs f h λvs=>K (pack vs) h
 | _,_,_=>False
theorem Nb (rs:List gL) (K:Value->ae->Prop):aX rs K=Em rs K:=by
 funext e f h
 cases e <;> first | rfl | exact JI rs f h _
theorem bW {P:Program} {F:FuncId} {N:Nat} {ic:dc} {rs:List gL} {hs:Hints} {h:ae} (hc:bJ P F hs=some (N,ic,rs)) {args:List Value} (ha:args.length<=N)
  {K:Value->ae->Prop} (hi:ah P ic (aX rs K) (bG args) h):aw P F args h K:=
 .mk (RL hc ha (by rw [<-aje,<-Nb];exact hi))
end
section
section apO
variable {A B : Prop} {K : Value -> Prop} {K2 : Value -> ae -> Prop} {v : Value} {h : ae}
@[simp] theorem ag : OP (some v) K ↔ K v := ⟨λ⟨h⟩ => h, λh => .mk h⟩
@[simp] theorem bc : OH (some (v, h)) K2 ↔ K2 v h := ⟨λ⟨h⟩ => h, λh => .mk h⟩
theorem yR {o:Option Value} (ho:o=some v) (hk:K v):OP o K:=by rw [ho];exact ag.2 hk
theorem l6 {o:Option (Value×ae)} (ho:o=some (v,h)) (hk:K2 v h):OH o K2:=by rw [ho];exact bc.2 hk
@[simp] theorem fD : aK (.bool true) A B ↔ A := ⟨λ⟨h⟩ => by simpa [kz] using h, λh => .mk (by simpa [kz] using h)⟩
@[simp] theorem cN : aK (.bool false) A B ↔ B := ⟨λ⟨h⟩ => by simpa [kz] using h, λh => .mk (by simpa [kz] using h)⟩
theorem Y0 {b:Bool} (h1:b=true->A) (h2:b=false->B):aK (.bool b) A B:=by cases b <;> simp [h1,h2]
@[simp] theorem bL {p : Prop} [Decidable p] : aK (.bool (decide p)) A B ↔ (p -> A) /\ (¬ p -> B) := by by_cases hp : p <;> simp [hp]
@[simp] theorem uO {p : Prop} [Decidable p] : aK (.bool (!decide p)) A B ↔ (¬ p -> A) /\ (p -> B) := by by_cases hp : p <;> simp [hp]
@[simp] theorem hI : b7 (.bool true) true A B ↔ A := ⟨λ⟨h⟩ => by simpa [gO] using h, λh => .mk (by simpa [gO] using h)⟩
@[simp] theorem kK : b7 (.bool true) false A B ↔ B := ⟨λ⟨h⟩ => by simpa [gO] using h, λh => .mk (by simpa [gO] using h)⟩
@[simp] theorem jz : b7 (.bool false) true A B ↔ B := ⟨λ⟨h⟩ => by simpa [gO] using h, λh => .mk (by simpa [gO] using h)⟩
@[simp] theorem gK : b7 (.bool false) false A B ↔ A := ⟨λ⟨h⟩ => by simpa [gO] using h, λh => .mk (by simpa [gO] using h)⟩
@[simp] theorem sG {b : Bool} : b7 undef b A B ↔ B := ⟨λ⟨h⟩ => by simpa [gO, undef] using h, λh => .mk (by simpa [gO, undef] using h)⟩
@[simp] theorem fh (a b : Value) : cA (.bool true) a b = some a := rfl
@[simp] theorem dO (a b : Value) : cA (.bool false) a b = some b := rfl
end apO
abbrev I (n:Int):Value:=.int .i64 n
abbrev B (b:Bool):Value:=.bool b
abbrev cv (c:UInt8):Value:=.int .u8 (c.toNat:Int)
abbrev pt (i o:Nat):Value:=.pointer (some ⟨i,o,none⟩)
theorem wrap64 {n:Int} (h1: -9223372036854775808<=n) (h2:n<9223372036854775808):IntKind.wrap .i64 n=n:=by
 have e:IntKind.wrap .i64 n=if n%18446744073709551616>=9223372036854775808 then n%18446744073709551616-18446744073709551616 else n%18446744073709551616:=by
  simp [IntKind.wrap,IntKind.bits,IntKind.signed]
 rw [e]
 split <;> omega
theorem Cv {n:Int} (h1:0<=n) (h2:n<256):IntKind.wrap .u8 n=n:=by
 have e:IntKind.wrap .u8 n=n%256:=by
  simp [IntKind.wrap,IntKind.bits,IntKind.signed]
 rw [e]
 omega
section ints
variable (k : IntKind) (a b : Int)
@[simp] theorem cb : ai .lss (.int k a) (.int k b) = some (.bool (decide (a < b))) := by simp [ai, gU]
@[simp] theorem M6 : ai .leq (.int k a) (.int k b) = some (.bool (decide (a <= b))) := by simp [ai, gU]
@[simp] theorem fY : ai .gtr (.int k a) (.int k b) = some (.bool (decide (b < a))) := by simp [ai, gU]
@[simp] theorem lG : ai .geq (.int k a) (.int k b) = some (.bool (decide (b <= a))) := by simp [ai, gU]
@[simp] theorem ij : ai .eql (.int k a) (.int k b) = some (.bool (decide (a = b))) := by simp [ai, gU]
@[simp] theorem jW : ai .neq (.int k a) (.int k b) = some (.bool (!decide (a = b))) := by simp [ai, gU]
@[simp] theorem cD : ai .add (.int k a) (.int k b) = some (.int k (k.wrap (a + b))) := by simp [ai, gU]
@[simp] theorem ku : ai .sub (.int k a) (.int k b) = some (.int k (k.wrap (a - b))) := by simp [ai, gU]
@[simp] theorem ab2 : ai .mul (.int k a) (.int k b) = some (.int k (k.wrap (a * b))) := by simp [ai, gU]
@[simp] theorem jf (b : Bool) : fG .not (.bool b) = some (.bool !b) := rfl
@[simp] theorem arY : fG .neg (.int k a) = some (.int k (k.wrap (0 - a))) := rfl
@[simp] theorem jX (k' : IntKind) : fg k' (.int k a) = some (.int k' (k'.wrap a)) := rfl
@[simp] theorem Fh (n x y : Bool) : lk n (.bool x) (.bool y) = some (.bool (if n then !(x == y) else x == y)) := rfl
@[simp] theorem hP (i : Nat) (vs : Array Value) : cd i (.tuple vs) = vs[i]? := rfl
end ints
section strings
variable (a b : List UInt8)
@[simp] theorem ab6 (l : List UInt8) : bytes ⟨l.toArray⟩ = l := ab7 l
@[simp] theorem gX : dN (S a) = some (I a.length) := by simp [dN, S]
@[simp] theorem kN : ai .eql (S a) (S b) = some (.bool (decide (a = b))) := by simp [ai, rF, S]
@[simp] theorem ab3 : ai .neq (S a) (S b) = some (.bool (!decide (a = b))) := by simp [ai, rF, S]
theorem l8 (h:a.length+b.length<=maxLen):ai .add (S a) (S b)=some (S (a++b)):=by
 simp only [ai,rF,S,ab6,if_pos h]
theorem GU {i:Nat} (h:i<a.length) (k:IntKind):ja (S a) (.int k (i:Int))=some (cv a[i]):=by simp [ja,S,h]
theorem Cc {n:Nat} (h:n<=a.length) (k:IntKind):gh (S a) none (some (.int k (n:Int)))=some (S (a.take n)):=by simp [gh,S,lj,lQ,h]
theorem XL {n:Nat} (h:n<=a.length) (k:IntKind):gh (S a) (some (.int k (n:Int))) none=some (S (a.drop n)):=by simp [gh,S,lj,lQ,h]
end strings
theorem akA {σ:Type} {init:List Value} {h:ae} {Q:(List Value->ae->Prop)->List Value->ae->Prop} (enc:σ->List Value) (hp:σ->ae) (J:σ->Prop) (μ:σ->Nat) (s0:σ)
  (e0:enc s0=init) (eh:hp s0=h) (j0:J s0) (hr:∀s,J s->Q (λys hy=>∃s',enc s'=ys/\hp s'=hy/\J s'/\μ s'<μ s) (enc s) (hp s)):bM init h Q:=by
 refine .mk ?_
 have least:∀ys hy,(∃s,enc s=ys/\hp s=hy/\J s)->∃m,(∃s,enc s=ys/\hp s=hy/\J s/\μ s=m)/\∀s,enc s=ys->hp s=hy->J s->m<=μ s:=by
  rintro ys hy ⟨s,h1,h2,h3⟩
  have key:∀n,(∃s,enc s=ys/\hp s=hy/\J s/\μ s=n)->∃m,(∃s,enc s=ys/\hp s=hy/\J s/\μ s=m)/\∀s,enc s=ys->hp s=hy->J s->m<=μ s:=by
   intro n
   induction n using Nat.strongRecOn with
   | _ n ih=>
    intro hn
    by_cases ar:∃s,enc s=ys/\hp s=hy/\J s/\μ s<n
    ·obtain ⟨s',a,b,c,d⟩:=ar
     exact ih (μ s') d ⟨s',a,b,c,rfl⟩
    ·exact ⟨n,hn,λs' a b c=>le_of_not_lt λd=>ar ⟨s',a,b,c,d⟩⟩
  exact key _ ⟨s,h1,h2,h3,rfl⟩
 classical
 refine ⟨λys hy=>∃s,enc s=ys/\hp s=hy/\J s,λys hy=>if hJ:∃s,enc s=ys/\hp s=hy/\J s then Classical.choose (least ys hy hJ) else 0,⟨s0,e0,eh,j0⟩,?_⟩
 rintro xs hx hJ
 have vY:=choose_spec (least xs hx hJ)
 simp only [dif_pos hJ]
 generalize Classical.choose (least xs hx hJ)=m at vY
 obtain ⟨⟨s,a,b,c,d⟩,_⟩:=vY
 have:=hr s c
 rw [a,b] at this
 have he:(λ(ys:List Value) (hy:ae)=>(∃s,enc s=ys/\hp s=hy/\J s)/\(if hJ:∃s,enc s=ys/\hp s=hy/\J s then Classical.choose (least ys hy hJ) else 0)<m)=
   λys hy=>∃s',enc s'=ys/\hp s'=hy/\J s'/\μ s'<μ s:=by
  funext ys hy
  apply propext
  constructor
  ·rintro ⟨tc,ar⟩
   rw [dif_pos tc] at ar
   obtain ⟨⟨s',a',b',c',d'⟩,_⟩:=choose_spec (least ys hy tc)
   exact ⟨s',a',b',c',by rw [d',d];exact ar⟩
  ·rintro ⟨s',a',b',c',d'⟩
   refine ⟨⟨s',a',b',c'⟩,?_⟩
   rw [dif_pos ⟨s',a',b',c'⟩]
   have:=(choose_spec (least ys hy ⟨s',a',b',c'⟩)).2 s' a' b' c'
   omega
 rw [he]
 exact this
theorem cG {σ:Type} {init:List Value} {h:ae} {Q:(List Value->ae->Prop)->List Value->ae->Prop} (enc:σ->List Value) (hp:σ->ae) (J:σ->Prop) (μ:σ->Nat) (s0:σ)
  (e0:enc s0=init) (eh:hp s0=h) (j0:J s0) (hr:∀s,J s->∀L:List Value->ae->Prop,(∀s',J s'->μ s'<μ s->L (enc s') (hp s'))->Q L (enc s) (hp s)):bM init h Q:=
 akA enc hp J μ s0 e0 eh j0 λs hs=>hr s hs _ λs' h1 h2=>⟨s',rfl,rfl,h1,h2⟩
def EX (h h':ae):Prop:=h.length<=h'.length/\∀i,i<h.length->h'[i]?=h[i]?
theorem EX.refl (h:ae):EX h h:=⟨le_refl _,λ_ _=>rfl⟩
theorem EX.trans {a b c:ae} (h:EX a b) (k:EX b c):EX a c:=⟨Nat.le_trans h.1 k.1,λi hi=>(k.2 i (Nat.lt_of_lt_of_le hi h.1)).trans (h.2 i hi)⟩
theorem EX.append (h g:ae):EX h (h++g):=⟨by simp,λi hi=>getElem?_append_left hi⟩
theorem EX.push {a h:ae} (k:EX a h) (g:ae):EX a (h++g):=k.trans (.append h g)
theorem EX.set {a h:ae} (k:EX a h) {i:Nat} (hi:a.length<=i) (o:ax):EX a (h.set i o):=⟨by simpa using k.1,λj hj=>by rw [getElem?_set_ne (by omega)];exact k.2 j hj⟩
theorem EX.get {a h:ae} (k:EX a h) {i:Nat} {o:ax} (hi:a[i]?=some o):h[i]?=some o:=by rw [k.2 i (ba hi).1];exact hi
theorem EX.cells {a h:ae} (k:EX a h) {i:Nat} {xs:List Value} (hi:bn a i=some xs):bn h i=some xs:=by
 unfold bn at hi⊢
 have ar:i<a.length:=by
  apply byContradiction
  intro hc
  rw [getElem?_eq_none (le_of_not_lt hc)] at hi
  simp at hi
 rw [k.2 i ar]
 exact hi
def dF:Value->Bool
 | .bool _ | .int .. | .string _ | .nilFunc | .nilIface=>true
 | .pointer none | .map none=>true
 | .slice none 0 0=>true
 | _=>false
theorem dF.rel {ρ aq:aD} {v v':Value} (h:dF v=true) (hv:au ρ v v'):au aq v v':=by
 unfold dF at h
 split at h
 ·cases hv;exact .bool _
 ·cases hv;exact .int _ _
 ·cases hv;exact .string _
 ·cases hv;exact .nilFunc
 ·cases hv;exact .nilIface
 ·cases hv;exact .nilPtr
 ·cases hv;exact .nP
 ·cases hv;exact .lu
 ·cases h
def fW (V:Nat->Value):Prop:=∀(ρ aq:aD) (i j:Nat) (v':Value),aq j=ρ i->au ρ (V i) v'->au aq (V j) v'
theorem fW.dF {v:Value} (h:dF v=true):fW λ_=>v:=λ_ _ _ _ _ _ hv=>dF.rel h hv
inductive py:List (Nat->Value)->Prop
 | nil:py []
 | cons {V:Nat->Value} {l:List (Nat->Value)}:fW V->py l->py (V::l)
theorem py.rel {l:List (Nat->Value)} (h:py l) {ρ aq:aD} {i j:Nat} (e:aq j=ρ i):∀{ys:List Value},bg ρ (l.map (· i)) ys->bg aq (l.map (· j)) ys:=by
 induction h with
 | nil=>intro ys hv;cases hv;exact .nil
 | cons hV _ ih=>intro ys hv;cases hv with | cons a b=>exact .cons (hV _ _ _ _ _ e a) (ih b)
theorem fW.tuple {l:List (Nat->Value)} (h:py l):fW λi=>.tuple (l.map (· i)).toArray:=by
 intro ρ aq i j v' e hv
 cases hv with
 | tuple hs hr=>
  rename_i dv
  have:=h.rel e (bg.m6 hs hr)
  have:=au.lV this
  simpa using this
theorem fW.agg {l:List (Nat->Value)} (h:py l) (hc:∀j,∀V∈l,ep (V j)=true):fW λi=>.agg (l.map (· i)).toArray:=by
 intro ρ aq i j v' e hv
 cases hv with
 | agg hs h1 hr=>
  rename_i dv
  have:=h.rel e (bg.m6 hs hr)
  have:=au.uT this (by
   intro x hx
   simp only [mem_map] at hx
   obtain ⟨V,hV,rfl⟩:=hx
   exact hc j V hV)
  simpa using this
section gc
variable {P : Program} {F : FuncId} {args : List Value} {h : ae}
theorem vd {K:Value->ae->Prop} {v:Value} (hV:fW λ_=>v) (hc:aw P F args h λu h'=>u=v/\EX h h') (hk:K v h):aw P F args h K:=by
 rw [pw] at hc⊢
 obtain ⟨u,h',hc,rfl,hex⟩:=hc
 refine ⟨_,_,?_,hk⟩
 intro ρ args' w hv H
 refine (hc ρ args' w hv H).mono ?_
 rintro e w' ⟨v',aq,rfl,jL,H',T⟩
 have r3:∀k r,ρ k=some r->aq k=some r/\k<h.length/\h'[k]?=h[k]?:=λk r hr=>⟨T.ext k r hr,H.lt hr,hex.2 k (H.lt hr)⟩
 have mt:∀k,k<h.length->(bH h k↔bH h' k):=λk hk=>by unfold bH;rw [hex.2 k hk]
 have tT:∀k,k<h.length->(cZ h k↔cZ h' k):=λk hk=>by unfold cZ;rw [hex.2 k hk]
 have gf:ρ h.length=none:=H.none
 have Gi:∃i,ρ i=aq h'.length:=⟨h.length,by rw [gf,H'.none]⟩
 refine ⟨v',ρ,rfl,hV aq ρ h'.length h.length v' (by rw [gf,H'.none]) jL,⟨?_,?_,H.aT⟩,?_⟩
 ·intro k r hr
  obtain ⟨q1,q2,q3⟩:=r3 k r hr
  obtain ⟨o',cr,jm⟩:=H.obj k r hr
  obtain ⟨o2,pS,vV⟩:=H'.obj k r q1
  rw [q3,cr] at pS
  cases pS
  exact ⟨o',cr,jm.down T.ext vV⟩
 ·intro a b r s ha hb iZ hm hl
  obtain ⟨q1,q2,_⟩:=r3 a r ha
  obtain ⟨p1,p2,_⟩:=r3 b s hb
  exact H'.inj a b r s q1 p1 iZ ((mt a q2).1 hm) ((tT b p2).1 hl)
 ·exact {
   ext:=.refl _
   len:=le_refl _
   fK:=λk r hr=>H.lt hr
   kinds:=λ_ _ h=>h
   fresh:=λk r h1 h2=>by rw [h1] at h2;cases h2
   eP:=T.eP
   ey:=T.ey
   os:=T.os
   tape:=T.tape
   output:=T.output }
theorem PO {K:Value->ae->Prop} {v:Value} {h':ae} (hV:fW λ_=>v) (hc:px P F args [] v h') (ha:args.all dF=true) (hk:K v h):aw P F args h K:=by
 rw [pw]
 refine ⟨v,h,?_,hk⟩
 intro ρ args' w hv H
 have hv0:∀{xs ys:List Value},xs.all dF=true->bg ρ xs ys->bg (λ_=>none) xs ys:=by
  intro xs ys hs hr
  induction hr with
  | nil=>exact .nil
  | cons a _ ih=>simp only [List.all_cons,and_eq_true] at hs;exact .cons (dF.rel hs.1 a) (ih hs.2)
 have H0:aL P (λ_=>none) [] w:=⟨λi r hi=>(by cases hi),λi j r s hi=>(by cases hi),λi r hi=>(by cases hi)⟩
 refine (hc _ args' w (hv0 ha hv) H0).mono ?_
 rintro e w' ⟨v',aq,rfl,jL,H',T⟩
 have cI:∀b,b<w.heap.size->w'.heap[b]?=w.heap[b]?:=λb hb=>T.ey b hb λj s hj=>(by cases hj)
 refine ⟨v',ρ,rfl,hV aq ρ h'.length h.length v' (by rw [H.none,H'.none]) jL,⟨?_,H.inj,H.aT⟩,?_⟩
 ·intro k r hr
  obtain ⟨o,ho,jm⟩:=H.obj k r hr
  refine ⟨o,ho,?_⟩
  by_cases hd:o=.dead
  ·subst hd;trivial
  ·exact jm.mono (.refl _) (cI _ (tW H hr ⟨o,ho,hd⟩))
 ·exact {
   ext:=.refl _
   len:=le_refl _
   fK:=λk r hr=>H.lt hr
   kinds:=λ_ _ h=>h
   fresh:=λk r h1 h2=>by rw [h1] at h2;cases h2
   eP:=T.eP
   ey:=λb hb _=>cI b hb
   os:=T.os
   tape:=T.tape
   output:=T.output }
end gc
end
section
open Go.ChangeShapes Go.WideShapes Go.ChangeAt Go.RowKit
def lT (h:ae):Prop:=∀i,¬bH h i
section
variable {P : Program} {W : World} {ρ : aD} {h : ae}
theorem aL.start (P:Program) (W:World):aL P (λ_=>Option.none) [] W:=⟨λi r hi=>(by cases hi),λi j r s hi=>(by cases hi),λi r hi=>(by cases hi)⟩
theorem lT.start:lT []:=λi hm=>by unfold bH at hm;simp at hm
theorem aL.MW (H:aL P ρ h W) (hr:lT h) {r:RI} (he:r.aT=P.cellsOf r.elem) {o:ax} (cL:o=.dead∨∃e xs,o=.ro e xs) (ho:iN (ρ.add h.length r) W r o):
  aL P (ρ.add h.length r) (h++[o]) W/\lT (h++[o])/\ρ.le (ρ.add h.length r):=by
 have iJ:lT (h++[o]):=by
  intro i hm
  unfold bH at hm
  by_cases hi:i<h.length
  ·rw [getElem?_append_left hi] at hm
   exact hr i hm
  ·by_cases he:i=h.length
   ·subst he
    have e:(h++[o])[h.length]?=some o:=by simp
    rw [e] at hm
    rcases cL with rfl | ⟨_,_,rfl⟩ <;> rcases hm with ⟨_,_,h1⟩ | ⟨_,h1⟩ | ⟨_,_,_,h1⟩ | ⟨_,_,h1⟩ | ⟨_,_,_,h1⟩ | ⟨_,_,_,_,h1⟩ <;> cases h1
   ·rw [getElem?_eq_none (by simp;omega)] at hm
    rcases hm with ⟨_,_,h1⟩ | ⟨_,h1⟩ | ⟨_,_,_,h1⟩ | ⟨_,_,h1⟩ | ⟨_,_,_,h1⟩ | ⟨_,_,_,_,h1⟩ <;> cases h1
 refine ⟨⟨?_,λi j r s _ _ _ hm=>absurd hm (iJ i),?_⟩,iJ,aD.oV H.none⟩
 ·intro i s hi
  unfold aD.add at hi
  split at hi
  ·rename_i e
   subst e
   cases hi
   exact ⟨o,by simp,ho⟩
  ·obtain ⟨o',h1,h2⟩:=H.obj i s hi
   exact ⟨o',by rw [getElem?_append_left (H.lt hi)];exact h1,h2.mono (aD.oV H.none) rfl⟩
 ·intro i s hi
  unfold aD.add at hi
  split at hi
  ·cases hi;exact he
  ·exact H.aT i s hi
theorem dF.self {v:Value} (hs:dF v=true) (ρ:aD):au ρ v v:=by
 unfold dF at hs
 split at hs
 ·exact .bool _
 ·exact .int _ _
 ·exact .string _
 ·exact .nilFunc
 ·exact .nilIface
 ·exact .nilPtr
 ·exact .nP
 ·exact .lu
 ·cases hs
theorem dF.cell {v:Value} (hs:dF v=true):ep v=true:=by
 unfold dF at hs
 split at hs <;> first | rfl | cases hs
variable {H : Type} {enc : TypeId × Value -> H}
theorem addr_eq {a:Addr} (hs:a.spot=none) (n:Nat):a.add n=⟨a.block,a.off+n,none⟩:=by
 obtain ⟨b,o,s⟩:=a
 simp only at hs
 subst hs
 unfold Addr.add
 split
 ·rename_i h;subst h;rfl
 ·rfl
theorem afT {t e:TypeId} (ht:P.underlying t=some (.slice e)) (j6:P.cellsOf e≠0)
  (flat:∀n cs y,DataW.trod enc P W 0 (λ_=>true) true n e cs=some y->cs.length=P.cellsOf e/\∀x∈cs,dF x=true)
  {fuel:Nat} {v:Value} {x:DataW H×List MemPlace} (hd:DataW.trod enc P W 0 (λ_=>true) true fuel t [v]=some x) (aC:∀(a:Addr) (len cap:Nat),v=.slice (some a) len cap->a.spot=none) (HR:aL P ρ h W) (iJ:lT h):
  ∃(aq:aD) (g:ae) (v':Value) (n:Nat) (xs:List Value),ρ.le aq/\aL P aq (h++g) W/\lT (h++g)/\au aq v' v/\ep v'=true/\
   ((v'=.slice none 0 0/\n=0)∨∃i,v'=sl e i 0 n/\(n=0∨bn (h++g) i=some xs))/\xs.length=n*P.cellsOf e/\(∀y∈xs,dF y=true)/\
   ∀i,i<n->∃m y,DataW.trod enc P W 0 (λ_=>true) true m e ((xs.drop (i*P.cellsOf e)).take (P.cellsOf e))=some y:=by
 rcases DataW.trod_slice ht hd with ⟨h1,_⟩ | ⟨a,len,cap,ary,rest,n,_,h1,_,hb,hl,hm,hlen,hel,hsp,_⟩
 ·obtain rfl:v=.slice none 0 0:=by simpa using h1
  exact ⟨ρ,[],.slice none 0 0,0,[],.refl _,by simpa using HR,by simpa using iJ,.lu,rfl,.inl ⟨rfl,rfl⟩,by simp,by simp,λi hi=>by omega⟩
 ·obtain rfl:v=.slice (some a) len cap:=by simpa using h1
  have tH:a.spot=none:=aC a len cap rfl
  obtain ⟨AU,hr⟩:=hsp rfl
  -- every arx cells lie there
  have each:∀i,i<cap->∃cs y,W.cells? 0 (a.add (i*P.cellsOf e)) (P.cellsOf e)=some cs/\DataW.trod enc P W 0 (λ_=>true) true n e cs=some y:=by
   intro i hi
   have hQ:∃y,(W.cells? 0 (a.add (i*P.cellsOf e)) (P.cellsOf e)).bind (DataW.trod enc P W 0 (λ_=>true) true n e)=some y:=by
    by_cases eS:i<len
    ·rw [hel i eS,getElem?_eq_getElem (by omega)]
     exact ⟨_,rfl⟩
    ·have:=hr (i-len) (by omega)
     rw [show len+(i-len)=i by omega] at this
     rw [this,getElem?_eq_getElem (by omega)]
     exact ⟨_,rfl⟩
   obtain ⟨y,hy⟩:=hQ
   rw [Option.bind_eq_some_iff] at hy
   obtain ⟨cs,h1,h2⟩:=hy
   exact ⟨cs,y,h1,h2⟩
  by_cases FW:cap=0
  ·subst FW
   obtain rfl:len=0:=by omega
   obtain ⟨H',Gs,hle⟩:=HR.MW iJ (r:=⟨a.block,a.off,e,P.cellsOf e,a.off⟩) rfl (.inl rfl) trivial
   refine ⟨_,[.dead],sl e h.length 0 0,0,[],hle,H',Gs,?_,rfl,.inr ⟨_,rfl,.inl rfl⟩,by simp,by simp,λi hi=>by omega⟩
   obtain ⟨ab,ao,od⟩:=a
   simp only at tH
   subst tH
   exact au.slice (ρ:=ρ.add h.length ⟨ab,ao,e,P.cellsOf e,ao⟩) (i:=h.length) (o:=0) (n:=0) (o':=ao) (c':=0) (r:=⟨ab,ao,e,P.cellsOf e,ao⟩) (by simp [aD.add]) (.inl rfl) (le_refl _) (by unfold maxLen;omega) (by simp)
  ·have tp:0<P.cellsOf e:=by omega
   -- je block
   have agJ:∃c tt fr,W.heap[a.block]?=some (.cells c tt fr):=by
    obtain ⟨cs,y,h1,h2⟩:=each 0 (by omega)
    obtain ⟨_,g2,g3⟩:=World.cells?_some h1
    have:=g3 0 tp
    rw [Nat.zero_mul,addr_eq tH 0,addr_eq rfl 0,getElem?_eq_getElem (by omega)] at this
    unfold World.cell? at this
    split at this
    ·rename_i c tt fr hh;exact ⟨c,tt,fr,hh⟩
    ·cases this
   obtain ⟨c,tt,fr,nF⟩:=agJ
   have get:∀i cs,W.cells? 0 (a.add (i*P.cellsOf e)) (P.cellsOf e)=some cs->∀j,j<P.cellsOf e->c[a.off+(i*P.cellsOf e+j)]?=cs[j]?:=by
    intro i cs h1 j hj
    obtain ⟨_,g2,g3⟩:=World.cells?_some h1
    have:=g3 j hj
    rw [addr_eq tH,addr_eq rfl] at this
    simp only [World.cell?,nF] at this
    simpa [Nat.add_assoc] using this
   have here:∀j,j<cap*P.cellsOf e->∃y,c[a.off+j]?=some y/\dF y=true:=by
    intro j hj
    have hi:j / P.cellsOf e<cap:=(Nat.div_lt_iff_lt_mul tp).2 hj
    obtain ⟨cs,y,h1,h2⟩:=each _ hi
    obtain ⟨f1,f2⟩:=flat n cs y h2
    have oL:j%P.cellsOf e<P.cellsOf e:=Nat.mod_lt _ tp
    have:=get _ cs h1 (j%P.cellsOf e) oL
    rw [show j / P.cellsOf e*P.cellsOf e+j%P.cellsOf e=j by rw [Nat.mul_comm];exact Nat.div_add_mod j _] at this
    rw [this,getElem?_eq_getElem (by omega)]
    exact ⟨_,rfl,f2 _ (List.getElem_mem _)⟩
   let xs:=(List.range (len*P.cellsOf e)).map λj=>c.getD (a.off+j) Go.undef
   have jn:xs.length=len*P.cellsOf e:=by simp [xs]
   have hlc:len*P.cellsOf e<=cap*P.cellsOf e:=Nat.mul_le_mul_right _ hl
   have Gy:∀j,j<len*P.cellsOf e->xs[j]?=c[a.off+j]?:=by
    intro j hj
    obtain ⟨y,h1,_⟩:=here j (by omega)
    simp [xs,hj,h1]
   have nM:∀y∈xs,dF y=true:=by
    intro y hy
    obtain ⟨j,hj⟩:=List.getElem?_of_mem hy
    have ar:j<len*P.cellsOf e:=by have:=(ba hj).1;omega
    obtain ⟨z,h1,h2⟩:=here j (by omega)
    rw [Gy j ar,h1] at hj
    cases hj
    exact h2
   have aik:a.off+cap*P.cellsOf e<=c.size:=by
    have arN:0<cap*P.cellsOf e:=Nat.mul_pos (by omega) tp
    obtain ⟨y,h1,_⟩:=here (cap*P.cellsOf e-1) (by omega)
    have:=(Array.getElem?_eq_some_iff.1 h1).1
    omega
   obtain ⟨H',Gs,hle⟩:=HR.MW iJ (r:=⟨a.block,a.off,e,P.cellsOf e,c.size⟩) rfl (.inr ⟨e,xs,rfl⟩) ⟨rfl,c,tt,fr,nF,rfl,λj y hj=>by
    have ar:j<len*P.cellsOf e:=by have:=(ba hj).1;omega
    rw [Gy j ar] at hj
    obtain ⟨z,h1,h2⟩:=here j (by omega)
    rw [h1] at hj
    cases hj
    exact ⟨dF.cell h2,_,h1,dF.self h2 _⟩⟩
   refine ⟨_,[.ro e xs],sl e h.length 0 len,len,xs,hle,H',Gs,?_,rfl,.inr ⟨_,rfl,.inr (by simp [bn])⟩,jn,nM,?_⟩
   ·obtain ⟨ab,ao,od⟩:=a
    simp only at tH
    subst tH
    exact au.slice (ρ:=ρ.add h.length ⟨ab,ao,e,P.cellsOf e,c.size⟩) (i:=h.length) (o:=0) (n:=len) (o':=ao) (c':=cap) (r:=⟨ab,ao,e,P.cellsOf e,c.size⟩) (by simp [aD.add]) (.inl rfl) hl hm aik
   ·intro i hi
    obtain ⟨cs,y,h1,h2⟩:=each i (by omega)
    refine ⟨n,y,?_⟩
    have dV:=(flat n cs y h2).1
    have hmul:(i+1)*P.cellsOf e<=len*P.cellsOf e:=Nat.mul_le_mul_right _ hi
    rw [Nat.add_mul,Nat.one_mul] at hmul
    have:(xs.drop (i*P.cellsOf e)).take (P.cellsOf e)=cs:=by
     apply List.ext_getElem?
     intro j
     rw [List.getElem?_take]
     by_cases hj:j<P.cellsOf e
     ·rw [if_pos hj,List.getElem?_drop,Gy _ (by omega),get i cs h1 j hj]
     ·rw [if_neg hj,getElem?_eq_none (by omega)]
    rw [this]
    exact h2
theorem afS {t e:TypeId} (ht:P.underlying t=some (.slice e)) (j6:P.cellsOf e≠0)
  (flat:∀n cs y,DataW.trod enc P W 0 (λ_=>true) true n e cs=some y->cs.length=P.cellsOf e/\∀x∈cs,dF x=true)
  {fuel b:Nat} {v:Value} {x:DataW H×List MemPlace} (hd:DataW.trod enc P W 0 (λ_=>true) true fuel t [v]=some x) (aC:Cell.okWide P W .any b t v) (HR:aL P ρ h W) (iJ:lT h):
  ∃(aq:aD) (g:ae) (v':Value) (n:Nat) (xs:List Value),ρ.le aq/\aL P aq (h++g) W/\lT (h++g)/\au aq v' v/\ep v'=true/\
   ((v'=.slice none 0 0/\n=0)∨∃i,v'=sl e i 0 n/\(n=0∨bn (h++g) i=some xs))/\xs.length=n*P.cellsOf e/\(∀y∈xs,dF y=true)/\
   ∀i,i<n->∃m y,DataW.trod enc P W 0 (λ_=>true) true m e ((xs.drop (i*P.cellsOf e)).take (P.cellsOf e))=some y:=by
 refine afT ht j6 flat hd (λa len cap hv=>?_) HR iJ
 subst hv
 simp only [Cell.okWide,ht,Cell.ok] at aC
 exact aC.2.2.2.1
theorem apI {e:TypeId} {k:IntKind} (he:P.underlying e=some (.int k)) (hc:P.cellsOf e=1):∀n cs y,DataW.trod enc P W 0 (λ_=>true) true n e cs=some y->cs.length=P.cellsOf e/\∀x∈cs,dF x=true:=by
 intro n cs y h
 obtain ⟨m,rfl,_,_⟩:=DataW.trod_int he h
 exact ⟨by rw [hc];rfl,by simp [dF]⟩
theorem XZ (hl:laidOutB P=true) {W':World} (hb:Below W.heap.size W W'):∀{ts:List TypeId} {vs:List Value} {ds:List (DataW H)} {p:List MemPlace},(∀t∈ts,P.readableRec t=true/\t<P.types.size)->
  DataW.TrodAll enc P W 0 (λ_=>true) true ts vs ds p->(∀x∈p,x.block<W.heap.size)->DataW.TrodAll enc P W' 0 (λb=>decide (b<W.heap.size)) true ts vs ds p
 | [],vs,ds,p,_,h,_=>by
  obtain ⟨rfl,rfl,rfl⟩:=trodAll_nil h
  exact trodAll_mk0
 | t::ts,vs,ds,p,hr,h,ar=>by
  obtain ⟨v,fU,d,ds',a,b,rfl,rfl,rfl,h1,h2⟩:=trodAll_cons h
  exact trodAll_cons_mk (Below.trod hl (hr t (by simp)).1 (hr t (by simp)).2 h1 hb λx hx=>ar x (by simp [hx]))
   (XZ hl hb (λt ht=>hr t (by simp [ht])) h2 λx hx=>ar x (by simp [hx]))
theorem alG (hl:laidOutB P=true) {f:Func} {s:ChangeSpec} {t4:TypeId} {W':World} {args:Array Value} {ds gs:List (DataW H)} {before:List MemPlace} (hW:DataW.Whole enc P f.params.toList s.vars false W args.toList ds gs before)
  (hv:s.vars=[]) (ht4:P.underlying t4=some .bool) (hr:f.resultTypes=#[t4]) (F4:∀FO,FO=[]->s.fn H (ds++FO)={ results:=[.lit (.bool true)],args:=ds })
  (ah6:∀t∈f.params.toList,P.readableRec t=true/\t<P.types.size) (hb:Below W.heap.size W W'):s.post enc P f false true false false W args (.bool true) W':=by
 have Aw:=hW
 obtain ⟨p,q,hA,hV,rfl,_,_⟩:=hW
 rw [hv] at hV
 obtain ⟨rfl,rfl⟩:=trodVars_none hV
 have ar:∀x∈p,x.block<W.heap.size:=λx hx=>Aw.lt x (by simp [hx])
 have e:=F4 [] rfl
 refine ⟨ds,[],p++[],[],p,[],Aw,?_,?_,?_,hb.frame _,λh=>by cases h⟩
 ·rw [e,hr]
  exact trodAll_mk1 (shut_bool ht4 true)
 ·rw [e]
  exact XZ hl hb ah6 hA ar
 ·rw [e,hv]
  rfl
end
end
section
theorem xe (k:IntKind) (a b:Nat) (hb:b≠0):ai .rem (.int k (a:Int)) (.int k (b:Int))=some (.int k ((a%b:Nat):Int)):=by
 have h:¬((b:Int)=0):=by omega
 simp only [ai,gU,if_true,if_neg h]
 congr 2
theorem dW (i:Nat) (h:i<maxLen):IntKind.wrap .i64 ((i:Int)+1)=((i+1:Nat):Int):=by
 unfold maxLen at h
 rw [wrap64 (by omega) (by omega)];omega
structure NS (h:ae) (v:Value) (k:IntKind) (ns:List Int):Prop where
 len:aZ v=some (I ns.length)
 get:∀i (hi:i<ns.length),∃b o,aI 1 v (I i)=some (pt b o)/\af false 1 h (pt b o)=some (.int k ns[i])
 le:ns.length<=maxLen
theorem aky {h h':ae} (k:EX h h') {agg:Bool} {n:Nat} {a v:Value} (hl:af agg n h a=some v):af agg n h' a=some v:=by
 unfold af at hl⊢
 split at hl
 ·rename_i i o
  cases hc:bn h i with
  | none=>rw [hc] at hl;cases hl
  | some xs=>rw [hc] at hl;rw [k.cells hc];exact hl
 ·cases hl
theorem NS.mono {h h':ae} {v:Value} {k:IntKind} {ns:List Int} (e:EX h h') (p:NS h v k ns):NS h' v k ns:=
 ⟨p.len,λj hj=>let ⟨i,o,a,b⟩:=p.get j hj;⟨i,o,a,aky e b⟩,p.le⟩
theorem NS.nil (h:ae) (k:IntKind):NS h (.slice none 0 0) k []:=⟨rfl,λi hi=>by simp at hi,by simp⟩
theorem NS.sl {h:ae} {e:TypeId} {i:Nat} {k:IntKind} {ns:List Int} (hc:ns=[]∨bn h i=some (ns.map (Value.int k))) (hl:ns.length<=maxLen):NS h (sl e i 0 ns.length) k ns:=by
 refine ⟨rfl,λj hj=>⟨i,j,?_,?_⟩,hl⟩
 ·have:(0:Int)<=(j:Int)/\(j:Int)<(ns.length:Int):=by omega
  simp [Go.Sim.sl,aI,this]
 ·have hc:=hc.resolve_left (by rintro rfl;simp at hj)
  simp [af,hc,cU,hj]
section
open Go.ChangeShapes
variable {P : Program} {W : World} {ρ : aD} {h : ae} {H : Type} {enc : TypeId × Value -> H}
theorem R5 {e:TypeId} {k:IntKind} (he:P.underlying e=some (.int k)):∀{n:Nat} {xs:List Value},xs.length=n*1->(∀i,i<n->∃m y,DataW.trod enc P W 0 (λ_=>true) true m e ((xs.drop (i*1)).take 1)=some y)->
  ∃ns:List Int,ns.length=n/\xs=ns.map (Value.int k)/\∀x∈ns,(Lit.int k x).wf=true
 | 0,xs,hl,_=>⟨[],rfl,by simpa using hl,by simp⟩
 | n+1,xs,hl,hp=>by
  match xs,hl with
  | x::xs,hl=>
   obtain ⟨m,y,hy⟩:=hp 0 (by omega)
   simp at hy
   obtain ⟨z,hz,_,hw⟩:=DataW.trod_int he hy
   simp at hz
   subst hz
   obtain ⟨ns,h1,h2,h3⟩:=R5 he (n:=n) (xs:=xs) (by simp at hl;omega) λi hi=>by
    have:=hp (i+1) (by omega)
    rw [show (i+1)*1=i*1+1 by omega] at this
    simpa using this
   exact ⟨z::ns,by simp [h1],by simp [h2],by intro a ha;rcases mem_cons.1 ha with rfl | ha;exact hw;exact h3 a ha⟩
end
end
section
def ur (P:Program) (o:eI) (f:Nat->Value) (h:ae) (K:Value->ae->Prop):Prop:=
 match o with
 | .e (.next it)=>∃l,rV h (ev f it)=some l/\∀p∈l,K p.1 p.2
 | o=>bY P o f h K
def ta (P:Program):List fC->((Nat->Value)->ae->Prop)->(Nat->Value)->ae->Prop
 | [],K,f,h=>K f h
 | o::os,K,f,h=>ur P o.op f h λv h'=>ta P os K (ck f o.dst v) h'
def Br (P:Program) (g:Option (Nat×Bool)) (l:List fC) (K:(Nat->Value)->ae->Prop) (f:Nat->Value) (h:ae):Prop:=
 match g with
 | none=>ta P l K f h
 | some (s,b)=>mU P (some (s,b)) l K f h
noncomputable def iy (P:Program) (c:dc):aj->(Nat->Value)->ae->Prop:=
 dc.rec (motive:=λ_=>aj->(Nat->Value)->ae->Prop)
  (λK f h=>K .normal f h)
  (λl K f h=>jH P l 0 [] [] (K .normal) f h)
  (λg l K f h=>Br P g l (K .normal) f h)
  (λ_ _ ia ib K f h=>ia (aH (ib K) K) f h)
  (λls _ ic K f h=>sV (ic K) ls (ls.map f) h)
  (λc _ _ ia ib K f h=>kz (ev f c) (ia K f h) (ib K f h))
  (λid _ ic K f h=>ic (bk id K) f h)
  (λks ls _ ic K f h=>rQ (ls.map f) h λL xs hx=>ic (aH (λf' aJ=>ks.map f'=ks.map f/\L (ls.map f') aJ) K) (gI (ks++ls) (ks.map f++xs)) hx)
  (λid K f h=>K (.exit id) f h)
  (λK f h=>K .ret f h)
  (λg ls c K f h=>nT P (ev f g) ls (ls.map f) c h (K .normal f)) c
section
variable {P : Program} {w : World} {ρ : aD} {h : ae}
theorem akS (H:aL P ρ h w) {it wz:Value} {l:List (Value×ae)} (hn:rV h it=some l) (hv:au ρ it wz) (ty:TypeId):
  ∃p∈l,∃v' w',(Instr.next wz false ty).run P w=.ok v' w'/\au ρ p.1 v'/\aL P ρ p.2 w'/\Tr ρ h w ρ p.2 w':=by
 unfold rV at hn
 split at hn
 ·rename_i j
  split at hn
  ·rename_i i gJ seen last ra
   split at hn
   ·rename_i g c es fZ
    split at hn
    ·cases hn
    rename_i mi
    simp only [Option.some.injEq] at hn
    cases hv with
    | ptr hr=>
     rename_i r
     obtain ⟨o,ho,jm⟩:=H.obj j r hr
     rw [ra] at ho
     cases ho
     obtain ⟨AW,rm,AV,hb⟩:=jm
     obtain ⟨aG,hm,E⟩:=H.sW AV fZ
     rw [AW]
     -- je entries,one by one
     have ahB:aG.toList.map (λe=>e.born)=es.map λe=>e.1:=by
      apply List.ext_getElem?
      intro q
      simp only [List.getElem?_map]
      by_cases hq:q<es.length
      ·have he:=getElem?_eq_getElem hq
       generalize es[q]=x at he
       obtain ⟨b,k,v⟩:=x
       obtain ⟨_,en,g2,g3,g4,g5⟩:=E.get q b k v he
       rw [he,getElem?_toList,g2]
       simp [g4]
      ·have h1:aG.toList[q]?=none:=getElem?_eq_none (by rw [Array.length_toList,E.size];omega)
       rw [h1,getElem?_eq_none (by omega)];rfl
     have hz:∀en∈aG.toList,∃e∈es,e.1=en.born/\e.2.1=en.key/\au ρ e.2.2 en.val:=by
      intro en tn
      obtain ⟨q,hq,e'⟩:=List.mem_iff_getElem.1 tn
      have:aG[q]?=some en:=by rw [<-getElem?_toList,getElem?_eq_getElem hq,e']
      obtain ⟨v,q1,_,q3⟩:=E.inv this
      exact ⟨_,List.mem_of_getElem? q1,rfl,rfl,q3⟩
     have pV:∀e∈es,∃en∈aG.toList,e.1=en.born:=by
      intro e he
      have:e.1∈es.map λe=>e.1:=mem_map.2 ⟨e,he,rfl⟩
      rw [<-ahB] at this
      obtain ⟨en,h1,h2⟩:=mem_map.1 this
      exact ⟨en,h1,h2.symm⟩
     -- Ka je arP arZ
     let left:=aG.filter λe=> !(seen.toArray.contains e.born)
     let old:=left.filter λe=>decide (e.born<gJ)
     let new:=left.filter λe=>decide (e.born>=gJ)
     let ky:Array (Option MapEntry):=(if old.isEmpty then #[none] else #[])++(old++new).map some
     have agH:(!seen.toArray.isEmpty&& !aG.isEmpty&&aG.all λe=>decide (e.born>=last))=false:=by
      rw [Bool.eq_false_iff]
      intro hx
      apply mi
      simp only [and_eq_true] at hx⊢
      obtain ⟨⟨x1,x2⟩,x3⟩:=hx
      refine ⟨⟨by simpa using x1,?_⟩,?_⟩
      ·have:aG.size≠0:=by simpa [Array.isEmpty] using x2
       rw [E.size] at this
       simpa [List.isEmpty_iff] using this
      ·rw [all_eq_true]
       intro e he
       obtain ⟨en,h1,h2⟩:=pV e he
       rw [Array.all_eq_true'] at x3
       have:=x3 en (by simpa using h1)
       rw [h2]
       exact this
     have j6:0<ky.size:=by
      simp only [ky]
      by_cases ho:old.isEmpty=true
      ·rw [if_pos ho];simp;omega
      ·rw [if_neg ho]
       have:old.size≠0:=by simpa [Array.isEmpty] using ho
       simp;omega
     have bA:(getObj r.aY).run P w=.ok (.mapIter (some rm.aY) gJ seen.toArray last) w:=by simp [getObj,Sem.run,hb]
     have F7:(getObj rm.aY).run P w=.ok (.map aG c) w:=by simp [getObj,Sem.run,hm]
     obtain ⟨q,w1,hq,FY,oQ,QJ⟩:∃q w1,q<ky.size/\(choose (.mapNext ky.size)).run P w=.ok q w1/\(w1.heap=w.heap/\aL P ρ h w1)/\Tr ρ h w ρ h w1:=by
      by_cases Q1:(Question.mapNext ky.size).forced=true
      ·exact ⟨0,w,j6,by simp [choose,Sem.run,Q1],⟨rfl,H⟩,Tr.refl H⟩
      ·exact ⟨(w.tape w.drawn (.mapNext ky.size))%ky.size,{ w with drawn:=w.drawn+1 },Nat.mod_lt _ j6,by simp [choose,Sem.run,Q1,Question.cut],⟨rfl,H.drew _⟩,Tr.drew H _⟩
     have ef:(es.filter λe=> !seen.contains e.1).filter (λe=>decide (e.1<gJ))=[]↔old.isEmpty=true:=by
      constructor
      ·intro h0
       simp only [old,left]
       rw [Array.isEmpty_iff_size_eq_zero]
       apply byContradiction
       intro aU
       obtain ⟨en,tn⟩:∃en,en∈(Array.filter (λe=>decide (e.born<gJ)) (Array.filter (λe=> !(seen.toArray.contains e.born)) aG)):=⟨_,Array.getElem_mem (i:=0) (by omega)⟩
       rw [Array.mem_filter,Array.mem_filter] at tn
       obtain ⟨⟨e1,e2⟩,e3⟩:=tn
       obtain ⟨e,he,g1,_,_⟩:=hz en (by simpa using e1)
       have:e∈(es.filter λe=> !seen.contains e.1).filter (λe=>decide (e.1<gJ)):=by
        rw [mem_filter,mem_filter,g1]
        exact ⟨⟨he,by simpa using e2⟩,e3⟩
       rw [h0] at this
       cases this
      ·intro h0
       rw [Array.isEmpty_iff_size_eq_zero] at h0
       rw [List.filter_eq_nil_iff]
       intro e he ar
       rw [mem_filter] at he
       obtain ⟨en,h1,h2⟩:=pV e he.1
       have:en∈old:=by
        simp only [old,left]
        rw [Array.mem_filter,Array.mem_filter,<-h2]
        exact ⟨⟨by simpa using h1,by simpa using he.2⟩,ar⟩
       rw [Array.eq_empty_of_size_eq_zero h0] at this
       simp at this
     have QQ:w1.heap[r.aY]?=some (.mapIter (some rm.aY) gJ seen.toArray last):=by rw [oQ.1];exact hb
     obtain ⟨cq,AE⟩:∃cq,ky[q]?=some cq:=⟨_,Array.getElem?_eq_getElem hq⟩
     have ek:∀{v' w'},(match ky[q]? with
       | some (some e)=>(do setObj r.aY (.mapIter (some rm.aY) gJ (seen.toArray.push e.born) c);pure (.tuple #[.bool true,e.key,e.val]):Sem Value)
       | some none=>pure (.tuple #[.bool false])
       | none=>stuck "Next: no such candidate").run P w1=.ok v' w'->(Instr.next (.pointer (some ⟨r.aY,0+0,none⟩)) false ty).run P w=.ok v' w':=by
      intro v' w' hx
      unfold Instr.next
      simp only [add_zero,Sem.run_bind,bA,Result.andThen_ok,F7,agH,Bool.false_eq_true,if_false]
      show ((choose (.mapNext ky.size)).run P w).andThen _=_
      rw [FY]
      exact hx
     cases cq with
     | none=>
      -- it is over
      have ho:old.isEmpty=true:=by
       apply byContradiction
       intro ho
       have:(none:Option MapEntry)∈ky:=Array.mem_of_getElem? AE
       simp only [ky,if_neg ho] at this
       simp at this
      refine ⟨(.tuple #[.bool false],h),?_,.tuple #[.bool false],w1,ek (by rw [AE];rfl),au.lV (.cons (.bool _) .nil),oQ.2,QJ⟩
      rw [<-hn]
      have:=ef.2 ho
      refine List.mem_append_left _ ?_
      rw [this];simp
     | some en=>
      have tn:en∈old++new:=by
       have:(some en:Option MapEntry)∈ky:=Array.mem_of_getElem? AE
       simp only [ky] at this
       rcases Array.mem_append.1 this with h1 | h1
       ·split at h1 <;> simp at h1
       ·obtain ⟨e2,h2,h3⟩:=Array.mem_map.1 h1
        cases h3
        exact h2
      have AF:en∈aG.toList/\seen.contains en.born=false:=by
       rcases Array.mem_append.1 tn with h1 | h1
       ·simp only [old,left] at h1
        rw [Array.mem_filter,Array.mem_filter] at h1
        exact ⟨by simpa using h1.1.1,by simpa using h1.1.2⟩
       ·simp only [new,left] at h1
        rw [Array.mem_filter,Array.mem_filter] at h1
        exact ⟨by simpa using h1.1.1,by simpa using h1.1.2⟩
      obtain ⟨e,he,g1,g2,g3⟩:=hz en AF.1
      have ar:=(ba ra).1
      have fF:bH h j:=.inr (.inr (.inr (.inr (.inr ⟨_,_,_,_,ra⟩))))
      have sb:=iV.obj QQ (.mapIter (some rm.aY) gJ (seen.toArray.push en.born) c)
      obtain ⟨q1,q2⟩:=oQ.2.set (o:=.iter i gJ (seen++[e.1]) c) hr fF sb ⟨AW,rm,AV,by rw [sb.here,g1];simp⟩
      have kZ:(setObj r.aY (.mapIter (some rm.aY) gJ (seen.toArray.push en.born) c)).run P w1=.ok () { w1 with heap:=w1.heap.setIfInBounds r.aY (.mapIter (some rm.aY) gJ (seen.toArray.push en.born) c) }:=by
       simp [setObj,Sem.run,QQ]
      refine ⟨(.tuple #[.bool true,e.2.1,e.2.2],h.set j (.iter i gJ (seen++[e.1]) c)),?_,.tuple #[.bool true,en.key,en.val],_,ek (by rw [AE];simp only [Sem.run_bind,kZ,Result.andThen_ok,Sem.run_pure]),?_,q1,QJ.trans q2⟩
      ·rw [<-hn]
       refine List.mem_append_right _ (mem_map.2 ⟨e,?_,rfl⟩)
       have hl:e∈es.filter λe=> !seen.contains e.1:=by
        rw [mem_filter,g1]
        exact ⟨he,by simp at AF⊢;exact AF.2⟩
       by_cases dT:e.1<gJ
       ·exact List.mem_append_left _ (mem_filter.2 ⟨hl,by simpa using dT⟩)
       ·exact List.mem_append_right _ (mem_filter.2 ⟨hl,by simpa using le_of_not_lt dT⟩)
      ·rw [g2]
       have Ge:au ρ en.key en.key:=by
        have hk:dm g en.key=true:=by
         obtain ⟨q',fw,e'⟩:=List.mem_iff_getElem.1 AF.1
         have:aG[q']?=some en:=by rw [<-getElem?_toList,getElem?_eq_getElem fw,e']
         exact (E.inv this).choose_spec.2.1
        have ints:∀{kd:IntKind} {v:Value},hU kd v=true->au ρ v v/\ep v=true:=by
         intro kd v hv
         cases v <;> simp [hU] at hv
         exact ⟨.int _ _,rfl⟩
        cases vP:en.key with
        | int kd n=>exact .int _ _
        | string s=>exact .string _
        | agg cs=>
         rw [vP] at hk
         cases g with
         | ints n kd=>
          simp only [dm,and_eq_true,all_eq_true] at hk
          refine .agg rfl (λx hx=>(ints (hk.2 x hx).1).2) (λk x x' hx cT=>?_)
          rw [hx] at cT
          cases cT
          exact (ints (hk.2 x (by rw [<-getElem?_toList] at hx;exact List.mem_of_getElem? hx)).1).1
         | int _=>simp [dm,hU] at hk
         | str=>simp [dm] at hk
        | _=>rw [vP] at hk;cases g <;> simp [dm,hU] at hk
       exact au.lV (.cons (.bool _) (.cons Ge (.cons g3 .nil)))
   ·cases hn
  ·cases hn
 ·cases hn
end
end
section
section
variable {P : Program} {N : Nat}
theorem aeI {op:Op} {it:Operand} (h:fc P op=some (.next it)):op=.next it false:=by
 unfold fc at h
 split at h
 case h_13=>simp at h;subst h;rfl
 all_goals exfalso
 all_goals repeat' (split at h)
 all_goals first | (cases h;done) | (simp at h;done) | (simp only [map_eq_some_iff] at h;obtain ⟨_,_,h⟩:=h;cases h;done) | skip
theorem ale {o:Oper} {io:eI} {f:Nat->Value} {h:ae} {K:Value->ae->Prop} (hc:oq P o.op=some io) (aC:o.op.operands.all fP=true) (hs:ur P io f h K):
  ∀R B ρ a w,cP P N B ρ f h a w->∀(next:Act->World->Prop) (Q:Exit->Act->World->Prop),
   (∀v h' aq v' w',K v h'->au aq v v'->aL P aq h' w'->Tr ρ h w aq h' w'->next (a.put o.dst v') w')->o.wpIn (FR R) 0 P a w next Q:=by
 have PX:bY P io f h K->∀R B ρ a w,cP P N B ρ f h a w->∀(next:Act->World->Prop) (Q:Exit->Act->World->Prop),
   (∀v h' aq v' w',K v h'->au aq v v'->aL P aq h' w'->Tr ρ h w aq h' w'->next (a.put o.dst v') w')->o.wpIn (FR R) 0 P a w next Q:=by
  intro hs R B ρ a w Rr next Q hn
  obtain ⟨v,h',st,hk⟩:=rZ (N:=N) hc aC hs
  exact st R B ρ a w Rr next Q λaq v' w' h1 h2 h3=>hn v h' aq v' w' hk h1 h2 h3
 cases io with
 | e eo=>
  cases eo with
  | next it=>
   obtain ⟨l,hl,hk⟩:=hs
   rcases E7 hc with ⟨po,e,_⟩ | ⟨lo,e,_⟩ | ⟨eo,e,he⟩ | ⟨g,args,at_,_,_,e⟩ | ⟨x,args,at_,_,e⟩
   ·cases e
   ·cases e
   ·cases e
    have bX:=aeI he
    intro R B ρ a w Rr next Q hn
    rw [bX] at aC
    simp [Op.operands] at aC
    obtain ⟨p,hp,v',w',h1,h2,h3,h4⟩:=akS Rr.heap hl (Rr.ev aC) o.type
    exact Cu (PU hc) (v:=v') (w':=w') (by simp [execOp,bX,h1]) (hn p.1 p.2 ρ v' w' (hk p hp) h2 h3 h4)
   ·cases e
   ·cases e
  | _=>exact PX hs
 | _=>exact PX hs
def jA (P:Program) (N:Nat) (ops:Array Oper) (gi:List Nat) (f:Nat->Value) (h:ae) (K:(Nat->Value)->ae->Prop):Prop:=
 ∀S B ρ a w,cP P N B ρ f h a w->∀Q:Exit->Act->World->Prop,(∀f' h' aq a' w',K f' h'->cP P N B aq f' h' a' w'->Tr ρ h w aq h' w'->Q .normal a' w')->wpOpsIn (FR S) 0 P ops Q gi a w
theorem eJ.n {ops:Array Oper} {gi:List Nat} {f f':Nat->Value} {h h':ae} {K:(Nat->Value)->ae->Prop} (r:eJ P N ops gi f h f' h') (hk:K f' h'):jA P N ops gi f h K:=
 λS B ρ a w R Q hq=>r S B ρ a w R Q λaq a' w' R' T=>hq f' h' aq a' w' hk R' T
theorem jA.append {ops:Array Oper} {i j:List Nat} {f:Nat->Value} {h:ae} {K K':(Nat->Value)->ae->Prop} (a:jA P N ops i f h K) (b:∀bR h₁,K bR h₁->jA P N ops j bR h₁ K'):jA P N ops (i++j) f h K':=by
 intro S B ρ ac w R Q hq
 refine nY (a S B ρ ac w R _ ?_)
 intro bR h₁ jg qB jQ hk qx T
 exact b bR h₁ hk S B jg qB jQ qx Q λf' h' aq a' w' bO R' T'=>hq f' h' aq a' w' bO R' (T.trans T')
theorem jA.weaken {ops:Array Oper} {gi:List Nat} {f bR:Nat->Value} {h:ae} {K:(Nat->Value)->ae->Prop} (hw:m9 bR f) (hr:jA P N ops gi bR h K):jA P N ops gi f h K:=
 λS B ρ a w R=>hr S B ρ a w (R.weaken hw)
theorem Qy {ops:Array Oper}:∀{l:List fC} {os:List Oper} {i:Nat} {K:(Nat->Value)->ae->Prop} {f:Nat->Value} {h:ae},(∀(k:Nat) (o:Oper),os[k]?=some o->ops[i+k]?=some o)->iq P N ops os=some (kQ none l)->ta P l K f h->
  jA P N ops (range' i os.length) f h K
 | [],os,i,K,f,h,_,hc,hi=>by
  cases os with
  | nil=>exact λS B ρ a w R Q hq=>hq f h ρ a w hi R (Tr.refl R.heap)
  | cons o os=>obtain ⟨x,xs,_,_,he⟩:=om hc;simp [kQ] at he
 | g::l,os,i,K,f,h,kX,hc,hi=>by
  cases os with
  | nil=>simp [iq,kQ] at hc
  | cons o os=>
   obtain ⟨x,xs,h1,h2,he⟩:=om hc
   simp only [kQ,map_cons,List.cons.injEq] at he
   obtain ⟨rfl,rfl⟩:=he
   obtain ⟨q1,q2,q3,q4,q5⟩:=vf h1
   have ho:ops[i]?=some o:=kX 0 o rfl
   have AN:∀(k:Nat) (o':Oper),os[k]?=some o'->ops[i+1+k]?=some o':=by
    intro k o' hk
    have:=kX (k+1) o' (by simpa using hk)
    rw [show i+(k+1)=i+1+k by omega] at this
    exact this
   intro S B ρ a w R Q hq
   rw [length_cons,List.range'_succ]
   simp only [wpOpsIn,ho]
   rw [if_pos (by rw [xn q4 R trivial];rfl)]
   have dI:ur P g.op f h λv h'=>ta P l K (ck f g.dst v) h':=hi
   refine ale q3 q1 dI S B ρ a w R _ _ ?_
   intro v h' aq v' w' hk hv H T
   have q5':g.dst=o.dst:=q5
   rw [q5'] at hk
   exact Qy AN h2 hk S B aq _ w' (R.nR q2 T hv H) Q λvj aJ nh l7 gq ahq jV T'=>hq vj aJ nh l7 gq ahq jV (T.trans T')
theorem PW {ls:List Nat} {c:dc} {K:Exit->(Nat->Value)->ae->Prop} {f:Nat->Value} {h:ae} (hi:iy P (pB ls c) K f h):∃f',m9 f' f/\iy P c K f' h:=by
 cases ls with
 | nil=>exact ⟨f,λ_=>.inl rfl,hi⟩
 | cons l ls=>exact ⟨_,wL f (l::ls),hi⟩
theorem an9 {ops:Array Oper}:∀{gs:List (Option (Nat×Bool)×List fC)} {hs:Hints} {os:List Oper} {i:Nat} {K:Exit->(Nat->Value)->ae->Prop} {f:Nat->Value} {h:ae},
  (∀(k:Nat) (o:Oper),os[k]?=some o->ops[i+k]?=some o)->iq P N ops os=some (jG gs)->(∀g l,(g,l)∈gs->∀o∈l,leaves g o.dst=true)->iy P (lz gs hs).1 K f h->
  jA P N ops (range' i os.length) f h (K .normal):=by
 intro gs
 induction gs with
 | nil=>
  intro hs os i K f h kX hc _ hi
  cases os with
  | nil=>exact λS B ρ a w R Q hq=>hq f h ρ a w hi R (Tr.refl R.heap)
  | cons o os=>
   obtain ⟨x,xs,_,_,he⟩:=om hc
   simp [jG] at he
 | cons a gs ih=>
  obtain ⟨g,l⟩:=a
  intro hs os i K f h kX hc hl hi
  simp only [jG] at hc
  obtain ⟨iz,jd,rfl,c0,c1⟩:=E5 hc
  have AO:∀(k:Nat) (o:Oper),iz[k]?=some o->ops[i+k]?=some o:=by
   intro k o hk
   refine kX k o ?_
   rw [getElem?_append_left (ba hk).1]
   exact hk
  have Gp:∀(k:Nat) (o:Oper),jd[k]?=some o->ops[i+iz.length+k]?=some o:=by
   intro k o hk
   rw [Nat.add_assoc]
   refine kX _ o ?_
   rw [List.getElem?_append_right (by omega)]
   simpa using hk
  have first:∀{K:(Nat->Value)->ae->Prop},Br P g l K f h->jA P N ops (range' i iz.length) f h K:=by
   intro K hk
   cases g with
   | none=>exact Qy AO c0 hk
   | some sb=>
    obtain ⟨f',h',r1,r2⟩:=A3 AO c0 (Un (λo ho=>hl _ l (by simp) o ho) hk)
    exact r1.n r2
  have both:∀{Dl:(Nat->Value)->ae->Prop},jA P N ops (range' i iz.length) f h Dl->(∀bR h₁,Dl bR h₁->jA P N ops (range' (i+iz.length) jd.length) bR h₁ (K .normal))->jA P N ops (range' i (iz++jd).length) f h (K .normal):=by
   intro Dl a b
   rw [List.length_append,<-List.range'_append_1]
   exact a.append b
  have rest:∀{hs:Hints} {bR:Nat->Value} {h₁:ae},iy P (lz gs hs).1 K bR h₁->jA P N ops (range' (i+iz.length) jd.length) bR h₁ (K .normal):=
   λhk=>ih Gp c1 (λg' l' hm=>hl g' l' (by simp [hm])) hk
  cases gs with
  | nil=>
   have vT:iy P (.ops g l) K f h:=by
    cases hs <;> exact hi
   have r1:=first vT
   have h1:jd=[]:=by
    cases jd with
    | nil=>rfl
    | cons o os=>obtain ⟨x,xs,_,_,he⟩:=om c1;simp [jG] at he
   subst h1
   simpa using r1
  | cons b gs=>
   cases hs with
   | nil=>exact both (first (K:=λf h=>iy P (lz (b::gs) []).1 K f h) hi) λbR h₁ r2=>rest r2
   | cons h0 hs=>
    refine both (first (K:=λf h=>iy P (pB h0 (lz (b::gs) hs).1) K f h) hi) λbR h₁ r2=>?_
    obtain ⟨FD,hw,r3⟩:=PW r2
    exact (rest r3).weaken hw
def qw (P:Program) (N B:Nat) (ρ:aD) (h:ae) (w:World) (K:aj):Exit->Act->World->Prop:=
 λe a' w'=>∃f' h' aq,K e f' h'/\cP P N B aq f' h' a' w'/\Tr ρ h w aq h' w'
def pz (P:Program) (N:Nat) (out:Bool) (c:Code) (f:Nat->Value) (h:ae) (K:aj):Prop:=
 ∀S,(out=true->S=none)->∀B ρ a w,cP P N B ρ f h a w->c.wpIn (FR S) 0 P (qw P N B ρ h w K) a w
def sM (P:Program) (N:Nat) (out:Bool) (c:Code) (f:Nat->Value) (h:ae) (K:aj):Prop:=
 ∀S,(out=true->S=none)->∀B ρ a w,cP P N B ρ f h a w->lr S P c (qw P N B ρ h w K) a w
variable {out : Bool}
theorem eB.n {c:Code} {f f':Nat->Value} {h h':ae} {e:Exit} {K:aj} (r:eB P N out c f h e f' h') (hk:K e f' h'):pz P N out c f h K:=by
 intro S hS B ρ a w R
 refine wpIn_mono (r S hS B ρ a w R) ?_
 rintro e' a' w' ⟨rfl,aq,R',T⟩
 exact ⟨f',h',aq,hk,R',T⟩
theorem qw.trans {B:Nat} {ρ jg:aD} {h h₁:ae} {w jQ:World} {K:aj} (T:Tr ρ h w jg h₁ jQ):∀e' a' w',qw P N B jg h₁ jQ K e' a' w'->qw P N B ρ h w K e' a' w':=by
 rintro e' a' w' ⟨f',h',aq,hk,R,T'⟩
 exact ⟨f',h',aq,hk,R,T.trans T'⟩
theorem pz.weaken {c:Code} {f bR:Nat->Value} {h:ae} {K:aj} (hw:m9 bR f) (hr:pz P N out c bR h K):pz P N out c f h K:=
 λS hS B ρ a w R=>hr S hS B ρ a w (R.weaken hw)
theorem sM.weaken {c:Code} {f bR:Nat->Value} {h:ae} {K:aj} (hw:m9 bR f) (hr:sM P N out c bR h K):sM P N out c f h K:=
 λS hS B ρ a w R=>hr S hS B ρ a w (R.weaken hw)
theorem ajd {out:Bool}:∀{c:Code} {hs eM:Hints} {ic:dc},dB P N c hs=some (ic,eM)->(out=true∨eU c=true)->∀{K:aj} {f:Nat->Value} {h:ae},iy P ic K f h->pz P N out c f h K:=by
 intro c
 induction c with
 | skip=>
  intro hs eM ic hc ho K f h hi
  simp [dB] at hc
  obtain ⟨rfl,_⟩:=hc
  exact λS hS B ρ a w R=>wpIn_skip ⟨f,h,ρ,hi,R,Tr.refl R.heap⟩
 | region id ops draw=>
  intro hs eM ic hc ho K f h hi
  cases draw with
  | true=>
   simp only [dB] at hc
   split at hc
   ·rename_i l hl
    split at hc
    ·rename_i oK
     simp at hc
     obtain ⟨rfl,_⟩:=hc
     have dE:=Qq (PZ oK) hi
     rw [Ab] at dE
     obtain ⟨f',h',r1,r2⟩:=RO (id:=id) hl dE
     exact r1.n r2
    ·cases hc
   ·cases hc
  | false=>
   simp only [dB] at hc
   split at hc
   ·rename_i l hl
    split at hc
    ·rename_i oK
     simp only [Option.some.injEq] at hc
     have he:ic=(lz (nE l) hs).1:=by rw [hc]
     subst he
     have r1:=an9 (i:=0) (os:=ops.toList) (ops:=ops) (λk o hk=>by simpa using hk) (by rw [An];exact hl) (Sh oK) hi
     intro S hS B ρ a w R
     refine wpIn_region ?_
     rw [List.range_eq_range']
     have xd:jA P N ops (range' 0 ops.size) f h (K .normal):=by simpa using r1
     refine xd S B ρ a w R _ ?_
     intro f' h' aq a' w' hk R' T
     exact ⟨f',h',aq,hk,R',T⟩
    ·cases hc
   ·simp at hc
    obtain ⟨rfl,_⟩:=hc
    exact (show False from hi).elim
 | seq x y rH rI=>
  intro hs eM ic hc ho K f h hi
  have ru:out=true∨eU x=true:=ho.imp id λh=>by simp only [eU,and_eq_true] at h;exact h.1
  have rv:out=true∨eU y=true:=ho.imp id λh=>by simp only [eU,and_eq_true] at h;exact h.2
  have both:∀{a b:dc} {h0 fO iv:Hints} {ls:List Nat},dB P N x hs=some (a,h0)->dB P N y fO=some (b,iv)->iy P (.seq a (pB ls b)) K f h->pz P N out (.seq x y) f h K:=by
   intro a b h0 fO iv ls ha hb hi
   have r1:=rH ha ru hi
   intro S hS B ρ ac w R
   refine wpIn_seq (wpIn_mono (r1 S hS B ρ ac w R) ?_)
   rintro e' a' w' ⟨bR,h₁,jg,hk,qx,T⟩
   cases e' with
   | normal=>
    obtain ⟨FD,hw,r3⟩:=PW hk
    exact wpIn_mono (((rI hb rv r3).weaken hw) S hS B jg a' w' qx) (qw.trans T)
   | _=>exact ⟨bR,h₁,jg,hk,qx,T⟩
  simp only [dB] at hc
  split at hc
  ·rename_i a h0 fO ha
   split at hc
   ·rename_i b iv hb
    simp at hc
    obtain ⟨rfl,_⟩:=hc
    exact both ha hb hi
   ·cases hc
  ·rename_i a ha
   split at hc
   ·rename_i b iv hb
    simp at hc
    obtain ⟨rfl,_⟩:=hc
    exact both (ls:=[]) ha hb hi
   ·cases hc
  ·cases hc
 | cond c x y rH rI=>
  intro hs eM ic hc ho K f h hi
  have ru:out=true∨eU x=true:=ho.imp id λh=>by simp only [eU,and_eq_true] at h;exact h.1
  have rv:out=true∨eU y=true:=ho.imp id λh=>by simp only [eU,and_eq_true] at h;exact h.2
  simp only [dB] at hc
  split at hc
  ·rename_i aC
   split at hc
   ·rename_i a fO ha
    split at hc
    ·rename_i b iv hb
     simp at hc
     obtain ⟨rfl,_⟩:=hc
     have hi:kz (ev f c) (iy P a K f h) (iy P b K f h):=hi
     simp only [kz] at hi
     split at hi
     ·rename_i t ht
      have go:pz P N out (if t then x else y) f h K->pz P N out (.cond c x y) f h K:=by
       intro r S hS B ρ ac w R
       have:=R.ev aC
       rw [ht] at this
       exact wpIn_cond this.qF (r S hS B ρ ac w R)
      cases t
      ·simp at hi
       exact go (by simpa using rI hb rv hi)
      ·simp at hi
       exact go (by simpa using rH ha ru hi)
     ·exact hi.elim
    ·cases hc
   ·cases hc
  ·cases hc
 | block id c ih=>
  intro hs eM ic hc ho K f h hi
  simp only [dB] at hc
  split at hc
  ·rename_i a fO ha
   simp at hc
   obtain ⟨rfl,_⟩:=hc
   have r1:=ih ha (ho.imp (λh=>h) λh=>h) (K:=bk id K) hi
   intro S hS B ρ ac w R
   refine wpIn_block (wpIn_mono (r1 S hS B ρ ac w R) ?_)
   rintro e' a' w' ⟨f',h',aq,hk,R',T⟩
   cases e' with
   | exit i=>
    simp only [Exit.inBlock,bk] at hk⊢
    split <;> rename_i h
    ·rw [if_pos h] at hk;exact ⟨f',h',aq,hk,R',T⟩
    ·rw [if_neg h] at hk;exact ⟨f',h',aq,hk,R',T⟩
   | _=>exact ⟨f',h',aq,hk,R',T⟩
  ·cases hc
 | loop c ih=>
  intro hs eM ic hc ho K f h hi
  simp only [dB] at hc
  split at hc
  ·rename_i ks ls fO
   split at hc
   ·rename_i a iv ha
    simp at hc
    obtain ⟨rfl,_⟩:=hc
    obtain ⟨J,μ,h0,Gt⟩:=hi
    have key:∀(n:Nat) (xs:List Value) (hh:ae),μ xs hh=n->J xs hh->sM P N out c (gI (ks++ls) (ks.map f++xs)) hh K:=by
     intro n
     induction n using Nat.strongRecOn with
     | _ n mO=>
      intro xs hh hn hJ
      have r1:=ih ha (ho.imp (λh=>h) λh=>h) (Gt xs hh hJ)
      intro S hS B ρ ac w R
      refine lr.round (wpIn_mono (r1 S hS B ρ ac w R) ?_)
      rintro e' a' w' ⟨bR,h₁,jg,hk,qx,T⟩
      cases e' with
      | normal=>
       obtain ⟨hk,FV,ar⟩:=hk
       have s1:=mO (μ (ls.map bR) h₁) (by omega) (ls.map bR) h₁ rfl FV
       have s2:sM P N out c bR h₁ K:=s1.weaken (by rw [<-hk];exact Bq bR ks ls _ rfl)
       exact (s2 S hS B jg a' w' qx).mono (qw.trans T)
      | _=>exact ⟨bR,h₁,jg,hk,qx,T⟩
    have s1:sM P N out c f h K:=(key _ (ls.map f) h rfl h0).weaken (Bq f ks ls _ rfl)
    exact λS hS B ρ ac w R=>(s1 S hS B ρ ac w R).wp
   ·cases hc
  ·cases hc
 | exit id=>
  intro hs eM ic hc ho K f h hi
  simp [dB] at hc
  obtain ⟨rfl,_⟩:=hc
  exact λS hS B ρ a w R=>wpIn_exit ⟨f,h,ρ,hi,R,Tr.refl R.heap⟩
 | ret=>
  intro hs eM ic hc ho K f h hi
  simp [dB] at hc
  obtain ⟨rfl,_⟩:=hc
  exact λS hS B ρ a w R=>wpIn_ret ⟨f,h,ρ,hi,R,Tr.refl R.heap⟩
 | rangeFunc g ps gE body=>
  intro hs eM ic hc ho K f h hi
  have ho:out=true:=ho.resolve_right (by simp [eU])
  subst ho
  simp only [dB] at hc
  split at hc
  ·rename_i ls fO
   split at hc
   ·rename_i hk
    simp at hc
    obtain ⟨rfl,_⟩:=hc
    simp only [and_eq_true] at hk
    obtain ⟨h',r1,r2⟩:=W9 hk.1 hi
    exact r1.n r2
   ·cases hc
  ·cases hc
 | _=>intro hs eM ic hc;simp [dB] at hc
end
def GN (P:Program) (F:FuncId) (args:List Value) (h:ae) (K:Value->ae->Prop):Prop:=
 ∀(ρ:aD) (args':Array Value) (w:World),bg ρ args args'.toList->aL P ρ h w->
  Calls P F args' w λe w'=>∃v h' v' aq,K v h'/\e=.returned v'/\au aq v v'/\aL P aq h' w'/\Tr ρ h w aq h' w'
theorem aiK {P:Program} {F:FuncId} {N:Nat} {ic:dc} {rs:List gL} {hs:Hints} {h:ae} (hc:bJ P F hs=some (N,ic,rs)) {args:List Value} (ha:args.length<=N) {K:Value->ae->Prop}
  (hi:iy P ic (Em rs K) (bG args) h):GN P F args h K:=by
 unfold bJ at hc
 split at hc
 ·rename_i fn hf
  split at hc
  ·rename_i c hb
   split at hc
   ·rename_i ic' _ JN h1 h2
    simp at hc
    obtain ⟨hN,rfl,rfl⟩:=hc
    have r1:=ajd (out:=true) h1 (.inl rfl) hi
    intro ρ args' w hv H
    refine callsIn_wide.1 (callsIn_of_wp_marks (F:=Fence.wide) (n:=0) hf hb trivial ?_ rfl)
    have jK:args'.size=args.length:=by have:=hv.length;simpa using this.symm
    have R:cP P fn.ntmps w.heap.size ρ (bG args) h { tmps:=args'++replicate (fn.ntmps-args'.size) Go.undef,defers:=[] } w:=⟨by simp;omega,le_refl _,Ql hv fn.ntmps,H⟩
    refine wpIn_mono (r1 none (λ_=>rfl) _ ρ _ w R) ?_
    rintro e' a' w' ⟨f',h',aq,hk,R',T⟩
    have mH:(e'=.normal∨e'=.ret)/\B1 JN K f' h':=by
     cases e' <;> first | exact ⟨.inl rfl,hk⟩ | exact ⟨.inr rfl,hk⟩ | exact hk.elim
    obtain ⟨he,mH⟩:=mH
    obtain ⟨vs,wg,mH⟩:=B2 mH
    have key:LeavesInM Fence.wide 0 P fn a'.tmps (λe w'=>∃v h' v' aq,K v h'/\e=.returned v'/\au aq v v'/\aL P aq h' w'/\Tr ρ h w aq h' w') a'.defers .returning w':=by
     refine G7 R'.defers R'.heap T ?_
     intro gq uN nm
     have jV:cP P fn.ntmps 0 aq f' h' { a' with defers:=[] } gq:=⟨R'.size,Nat.zero_le _,R'.tmp,uN⟩
     obtain ⟨v',q1,q2⟩:=Xx jV h2 wg
     exact ⟨v',q1,pack vs,h',v',aq,mH,rfl,q2,uN,nm⟩
    rcases he with rfl | rfl
    ·exact key
    ·exact key
   ·cases hc
  ·cases hc
 ·cases hc
end
end Go.Sim
