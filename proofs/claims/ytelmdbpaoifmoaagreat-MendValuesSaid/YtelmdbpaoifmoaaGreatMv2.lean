/-
  Part 2 of the texts behind a statement of this seat: Sim15, Sim17, Sim18, Sim18b, Sim18c, Sim18d, Sim18e, Sim18f, Sim19, Sim19b, Sim16, Sim20, Sim21, Sim23, Sim24, Sim25, Sim26, Sim27.
-/
import Derived.ProofKit
import Derived.OpenShut
import Derived.Test.YtelmdbpaoifmoaaGreatMv1
open Array (getElem?_toList replicate)
open Bool (and_eq_true or_eq_true)
open Classical (byContradiction choose_spec)
open List (all_eq_true cons_append getD getElem?_append_left getElem?_eq_getElem getElem?_eq_none getElem?_set_ne getElem?_set_self length_cons map_cons mem_cons mem_cons_of_mem mem_filter mem_map mem_of_getElem? mem_range nodup_cons range')
open Nat (add_zero le_of_not_lt le_refl zero_add)
open Option (bind_some getD_some map_eq_some_iff map_some)
namespace Go.Sim
section
section
variable {P : Program} {N : Nat}
def iH (P:Program) (N:Nat) (ops:Array Oper) (kE:List Nat) (f:Nat->Value) (h:ae) (f':Nat->Value) (h':ae):Prop:=
 ∀S B ρ a w,eQ P N B ρ f h a w->∀Q:Exit->Act->World->Prop,(∀av a' w',eQ P N B av f' h' a' w'->Tr ρ h w av h' w'->Q .normal a' w')->wpOpsIn (FR S) 0 P ops Q kE a w
theorem iH.nil {ops:Array Oper} {f:Nat->Value} {h:ae}:iH P N ops [] f h f h:=λ_ _ ρ a w R _ hq=>hq ρ a w R (Tr.refl R.heap)
theorem eQ.vh {B:Nat} {ρ av:aO} {f:Nat->Value} {h h':ae} {a:Act} {w w':World} (R:eQ P N B ρ f h a w) {d:Option Nat} (hd:d.all (·<N)=true) {v v':Value} (T:Tr ρ h w av h' w') (hv:aC av v v') (H:a9 P av h' w'):
  eQ P N B av (dS f d v) h' (a.put d v') w':=by
 cases d with
 | none=>exact R.mono T H
 | some d=>exact R.put (by simpa using hd) T hv H
theorem iH.step {ops:Array Oper} {i:Nat} {kE:List Nat} {o:Oper} {f f':Nat->Value} {h h₁ h':ae} {v:Value} (ho:ops[i]?=some o) (hd:o.dst.all (·<N)=true)
  (hw:∀B ρ a w,eQ P N B ρ f h a w->Region.wanted o (yielded ops a.tmps)=true) (hs:HK P N o f h v h₁) (hr:iH P N ops kE (dS f o.dst v) h₁ f' h'):iH P N ops (i::kE) f h f' h':=by
 intro S B ρ a w R Q hq
 simp only [wpOpsIn,ho]
 rw [if_pos (hw B ρ a w R)]
 refine hs S B ρ a w R _ _ ?_
 intro av v' w' hv H T
 exact hr S B av _ w' (R.vh hd T hv H) Q λnj sN kG pq T'=>hq nj sN kG pq (T.trans T')
theorem iH.pass {ops:Array Oper} {i:Nat} {kE:List Nat} {o:Oper} {f f':Nat->Value} {h h':ae} (ho:ops[i]?=some o) (hd:o.dst.all (·<N)=true)
  (hw:∀B ρ a w,eQ P N B ρ f h a w->Region.wanted o (yielded ops a.tmps)=false) (hr:iH P N ops kE (dS f o.dst undef) h f' h'):iH P N ops (i::kE) f h f' h':=by
 intro S B ρ a w R Q hq
 simp only [wpOpsIn,ho]
 rw [if_neg (by rw [hw B ρ a w R];simp)]
 exact ⟨λ_ _=>trivial,hr S B ρ _ w (R.vh hd (Tr.refl R.heap) (aC.undef _) R.heap) Q hq⟩
def sV (g:Option (Nat×Bool)) (f:Nat->Value):Prop:=
 match g with
 | none=>True
 | some (s,_)=>wL (f s)=false
theorem aCN {ρ:aO} {v v':Value} (h:aC ρ v v') (hb:wL v=false) (b:Bool):rf v' b=rf v b:=by
 cases h <;> first | rfl | simp [wL] at hb
theorem J7 {v:Value} {b:Bool} {A B:Prop} (h:lE v b A B):wL v=false/\((rf v b=true/\A)∨(rf v b=false/\B)):=by
 unfold lE at h
 split at h
 ·rename_i c
  refine ⟨rfl,?_⟩
  split at h
  ·rename_i hc;exact .inl ⟨hc,h⟩
  ·rename_i hc;exact .inr ⟨by simpa [rf] using hc,h⟩
 ·exact h.elim
 ·rename_i x h1 h2
  have e1:wL v=false:=by
   cases v <;> first | rfl | exact absurd rfl (h2 _ _ _)
  have e2:rf v b=false:=by
   cases v <;> first | rfl | exact absurd rfl (h1 _)
  exact ⟨e1,.inr ⟨e2,h⟩⟩
theorem GL {ops:Array Oper} {o:Oper} {g:Option (Nat×Bool)} (hg:JA N ops o.guard=some g) {B:Nat} {ρ:aO} {f:Nat->Value} {h:ae} {a:Act} {w:World} (R:eQ P N B ρ f h a w) (hb:sV g f):
  Region.wanted o (yielded ops a.tmps)=jv g f:=by
 unfold JA at hg
 unfold Region.wanted
 cases lG:o.guard with
 | none=>rw [lG] at hg;simp at hg;subst hg;rfl
 | some jb=>
  obtain ⟨j,b⟩:=jb
  rw [lG] at hg
  simp only at hg⊢
  split at hg
  ·rename_i s hs
   split at hg
   ·rename_i aF
    simp at hg;subst hg
    simp only [jv]
    have hr:=R.tmp s
    have kC:s<a.tmps.size:=by rw [R.size];exact aF
    have cA:a.tmps[s]?=some (a.tmps.getD s Go.undef):=by simp [Array.getD,kC]
    rw [<-aCN hr hb b]
    unfold yielded
    rw [hs]
    simp only [bind_some,cA]
    generalize a.tmps.getD s Go.undef=u
    cases u <;> simp [rf]
   ·cases hg
  ·cases hg
def tV (f' f:Nat->Value):Prop:=∀t,f' t=f t∨f' t=bot
theorem eQ.weaken {B:Nat} {ρ:aO} {f f':Nat->Value} {h:ae} {a:Act} {w:World} (R:eQ P N B ρ f h a w) (hw:tV f' f):eQ P N B ρ f' h a w:=
 ⟨R.size,R.defers,λt=>(hw t).elim (λe=>by rw [e];exact R.tmp t) (λe=>by rw [e];exact .any _),R.heap⟩
theorem FU (f:Nat->Value):∀ls:List Nat,tV (kS ls (ls.map f)) f
 | [],t=>.inr rfl
 | l::ls,t=>by
  simp only [map_cons,aEr]
  by_cases h:t=l
  ·subst h;simp
  ·rw [if_neg h];exact FU f ls t
theorem iH.weaken {ops:Array Oper} {kE:List Nat} {f dj f':Nat->Value} {h h':ae} (hw:tV dj f) (hr:iH P N ops kE dj h f' h'):iH P N ops kE f h f' h':=
 λS B ρ a w R=>hr S B ρ a w (R.weaken hw)
theorem iy.weaken {b:Bool} {c:Code} {f dj f':Nat->Value} {h h':ae} {e:Exit} (hw:tV dj f) (hr:iy P N b c dj h e f' h'):iy P N b c f h e f' h':=
 λS hS B ρ a w R=>hr S hS B ρ a w (R.weaken hw)
theorem vC {S:Option Nat} {ops:Array Oper} {Q:Exit->Act->World->Prop}:∀{i j:List Nat} {a:Act} {w:World},wpOpsIn (FR S) 0 P ops (λe a w=>match e with | .normal=>wpOpsIn (FR S) 0 P ops Q j a w | e=>Q e a w) i a w->wpOpsIn (FR S) 0 P ops Q (i++j) a w
 | [],j,a,w,h=>h
 | i::is,j,a,w,h=>by
  simp only [cons_append,wpOpsIn] at h⊢
  cases ho:ops[i]? with
  | none=>rw [ho] at h;exact vC h
  | some o=>
   rw [ho] at h
   simp only at h⊢
   split at h
   ·rename_i hw
    rw [if_pos hw]
    obtain ⟨h0,h⟩:=h
    refine ⟨h0,?_⟩
    generalize (o.semAt (FR S).round a.eval).run P w=r at h⊢
    cases r with
    | ok x w'=>
     cases x <;> simp only [Oper.uponIn] at h⊢
     ·exact vC h
     ·exact vC h
     ·refine ⟨h.1,h.2.mono ?_⟩
      rintro e kG hR
      cases e with
      | returned v=>exact vC hR
      | panicked chain=>exact hR
      | outgrown=>exact hR
     ·refine ⟨h.1,h.2.mono ?_⟩
      rintro e kG hR
      cases e with
      | returned v=>exact vC hR
      | panicked chain=>exact hR
      | outgrown=>exact hR
     ·exact vC h
     ·refine ⟨h.1,h.2.mono ?_⟩
      rintro v kG hR
      exact vC hR
    | halt x w'=>
     cases x <;> simp only [Oper.uponIn] at h⊢
     exact h
   ·rename_i hw
    rw [if_neg hw]
    exact ⟨h.1,vC h.2⟩
theorem iH.append {ops:Array Oper} {i j:List Nat} {f dj f':Nat->Value} {h h₁ h':ae} (a:iH P N ops i f h dj h₁) (b:iH P N ops j dj h₁ f' h'):iH P N ops (i++j) f h f' h':=by
 intro S B ρ ac w R Q hq
 refine vC (a S B ρ ac w R _ ?_)
 intro av a' w' R' T
 exact b S B av a' w' R' Q λnj sN kG pq T'=>hq nj sN kG pq (T.trans T')
theorem Ek {ops:Array Oper} {o:Oper} {x:jy} (h:zR P N ops o=some x):
  o.op.operands.all j9=true/\o.dst.all (·<N)=true/\vM P o.op=some x.op/\JA N ops o.guard=some x.guard/\x.dst=o.dst:=by
 unfold zR at h
 split at h
 ·rename_i hc
  simp only [and_eq_true] at hc
  split at h
  ·rename_i op g h1 h2
   simp at h;subst h
   exact ⟨hc.1,hc.2,h1,h2,rfl⟩
  ·cases h
 ·cases h
theorem vL {ops:Array Oper} {o:Oper} {os:List Oper} {l:List jy} (h:mA P N ops (o::os)=some l):∃x xs,zR P N ops o=some x/\mA P N ops os=some xs/\l=x::xs:=by
 simp only [mA] at h
 split at h
 ·rename_i x xs h1 h2
  simp at h
  exact ⟨x,xs,h1,h2,h.symm⟩
 ·cases h
theorem KR {ops:Array Oper}:∀{os:List Oper} {l:List jy} {i:Nat} {K:(Nat->Value)->ae->Prop} {f:Nat->Value} {h:ae},(∀(k:Nat) (o:Oper),os[k]?=some o->ops[i+k]?=some o)->mA P N ops os=some l->tI P l K f h->
  ∃f' h',iH P N ops (range' i os.length) f h f' h'/\K f' h'
 | [],l,i,K,f,h,_,hc,hi=>by
  simp [mA] at hc
  subst hc
  exact ⟨f,h,iH.nil,hi⟩
 | o::os,l,i,K,f,h,qT,hc,hi=>by
  obtain ⟨x,xs,h1,h2,rfl⟩:=vL hc
  obtain ⟨q1,q2,q3,q4,q5⟩:=Ek h1
  have ho:ops[i]?=some o:=qT 0 o rfl
  have KA:∀(k:Nat) (o':Oper),os[k]?=some o'->ops[i+1+k]?=some o':=by
   intro k o' hk
   have:=qT (k+1) o' (by simpa using hk)
   rw [show i+(k+1)=i+1+k by omega] at this
   exact this
  have go:∀(_:sV x.guard f) (_:jv x.guard f=true),dE P x.op f h (λv h'=>tI P xs K (dS f x.dst v) h')->
    ∃f' h',iH P N ops (range' i (o::os).length) f h f' h'/\K f' h':=by
   intro hb hw hs
   obtain ⟨v,h',bc,hk⟩:=Bf (N:=N) q3 q1 hs
   obtain ⟨Ev,aX,r1,r2⟩:=KR KA h2 hk
   refine ⟨Ev,aX,?_,r2⟩
   rw [length_cons,List.range'_succ]
   rw [q5] at r1
   exact iH.step ho q2 (λB ρ a w R=>by rw [GL q4 R hb,hw]) bc r1
  have skip:∀(_:sV x.guard f) (_:jv x.guard f=false),tI P xs K (dS f x.dst undef) h->
    ∃f' h',iH P N ops (range' i (o::os).length) f h f' h'/\K f' h':=by
   intro hb hw hs
   obtain ⟨Ev,aX,r1,r2⟩:=KR KA h2 hs
   refine ⟨Ev,aX,?_,r2⟩
   rw [length_cons,List.range'_succ]
   rw [q5] at r1
   exact iH.pass ho q2 (λB ρ a w R=>by rw [GL q4 R hb,hw]) r1
  simp only [tI] at hi
  split at hi
  ·rename_i lG
   exact go (by rw [lG];trivial) (by rw [lG];rfl) hi
  ·rename_i s b lG
   obtain ⟨e1,e2⟩:=J7 hi
   rcases e2 with ⟨e2,e3⟩ | ⟨e2,e3⟩
   ·exact go (by rw [lG];exact e1) (by rw [lG];exact e2) e3
   ·exact skip (by rw [lG];exact e1) (by rw [lG];exact e2) e3
def qM (g:Option (Nat×Bool)) (l:List jM):List jy:=l.map λo=>⟨o.dst,o.op,g⟩
def oE:List (Option (Nat×Bool)×List jM)->List jy
 | []=>[]
 | (g,l)::gs=>qM g l++oE gs
theorem JS:∀os:List jy,oE (uC os)=os
 | []=>rfl
 | o::os=>by
  have ih:=JS os
  simp only [uC]
  cases hg:uC os with
  | nil=>
   rw [hg] at ih
   simp only [oE] at ih
   subst ih
   simp [oE,qM]
  | cons a gs=>
   obtain ⟨g,l⟩:=a
   rw [hg] at ih
   simp only
   split
   ·rename_i he
    simp only [oE,qM,map_cons,cons_append] at ih⊢
    rw [ih,<-he]
   ·simp only [oE,qM,map_cons,List.map_nil,cons_append,List.nil_append] at ih⊢
    rw [ih]
theorem SI {v:Value} {b:Bool} {A B:Prop} (hb:wL v=false) (hA:rf v b=true->A) (hB:rf v b=false->B):lE v b A B:=by
 unfold lE
 split
 ·split
  ·rename_i c hc;exact hA hc
  ·rename_i c hc;exact hB (by simpa [rf] using hc)
 ·simp [wL] at hb
 ·rename_i x h1 h2
  refine hB ?_
  cases v <;> first | rfl | exact absurd rfl (h1 _)
theorem alV {g:Option (Nat×Bool)} {K:(Nat->Value)->ae->Prop}:∀{l:List jM} {f:Nat->Value} {h:ae},(∀o∈l,leaves g o.dst=true)->tM P g l K f h->tI P (qM g l) K f h:=by
 intro l f h hl hk
 cases g with
 | none=>
  simp only [tM] at hk
  clear hl
  induction l generalizing f h with
  | nil=>exact hk
  | cons o l ih=>
   simp only [yc] at hk
   simp only [qM,map_cons,tI]
   have:dE P o.op f h (λv h'=>tI P (qM none l) K (dS f o.dst v) h'):=by
    have mono:∀{io:iG} {K K':Value->ae->Prop},(∀v h,K v h->K' v h)->dE P io f h K->dE P io f h K':=by
     intro io K K' hm hs
     cases io with
     | p po=>simp only [dE,gv] at hs⊢;split at hs <;> first | exact hm _ _ hs | exact hs.elim
     | l lo=>simp only [dE,gv] at hs⊢;split at hs <;> first | exact hm _ _ hs | exact hs.elim
     | e eo=>simp only [dE,oc] at hs⊢;split at hs <;> first | exact hm _ _ hs | exact hs.elim
     | call g args=>exact hs.mono hm
     | lV x args=>simp only [dE,uo] at hs⊢;split at hs <;> first | exact ⟨hs.1,hs.2.mono hm⟩ | exact hs.elim
    exact mono (λv h' bD=>ih bD) hk
   exact this
 | some sb=>
  obtain ⟨s,b⟩:=sb
  simp only [tM] at hk
  obtain ⟨e1,e2⟩:=J7 hk
  clear hk
  induction l generalizing f h with
  | nil=>
   rcases e2 with ⟨_,e⟩ | ⟨_,e⟩ <;> exact e
  | cons o l ih=>
   have hd:o.dst≠some s:=by simpa [leaves] using hl o (by simp)
   have hs:∀v,dS f o.dst v s=f s:=by
    intro v
    cases ho:o.dst with
    | none=>rfl
    | some d=>
     have:s≠d:=by rintro rfl;exact hd ho
     simp [dS,tS,this]
   simp only [qM,map_cons,tI]
   refine SI e1 (λhb=>?_) (λhb=>?_)
   ·rcases e2 with ⟨_,e⟩ | ⟨e,_⟩
    ·simp only [yc] at e
     have mono:∀{io:iG} {K K':Value->ae->Prop},(∀v h,K v h->K' v h)->dE P io f h K->dE P io f h K':=by
      intro io K K' hm hs
      cases io with
      | p po=>simp only [dE,gv] at hs⊢;split at hs <;> first | exact hm _ _ hs | exact hs.elim
      | l lo=>simp only [dE,gv] at hs⊢;split at hs <;> first | exact hm _ _ hs | exact hs.elim
      | e eo=>simp only [dE,oc] at hs⊢;split at hs <;> first | exact hm _ _ hs | exact hs.elim
      | call g args=>exact hs.mono hm
      | lV x args=>simp only [dE,uo] at hs⊢;split at hs <;> first | exact ⟨hs.1,hs.2.mono hm⟩ | exact hs.elim
     refine mono (λv h' bD=>?_) e
     exact ih (λo' dX=>hl o' (by simp [dX])) (by rw [hs];exact e1) (.inl ⟨by rw [hs];exact hb,bD⟩)
    ·rw [hb] at e;cases e
   ·rcases e2 with ⟨e,_⟩ | ⟨_,e⟩
    ·rw [hb] at e;cases e
    ·exact ih (λo' dX=>hl o' (by simp [dX])) (by rw [hs];exact e1) (.inr ⟨by rw [hs];exact hb,e⟩)
theorem RC {ops:Array Oper}:∀{os:List Oper} {m0 m1:List jy},mA P N ops os=some (m0++m1)->∃mJ gY,os=mJ++gY/\mA P N ops mJ=some m0/\mA P N ops gY=some m1
 | os,[],m1,h=>⟨[],os,rfl,rfl,h⟩
 | [],x::m0,m1,h=>by simp [mA] at h
 | o::os,x::m0,m1,h=>by
  obtain ⟨y,ys,h1,h2,he⟩:=vL h
  simp only [cons_append,List.cons.injEq] at he
  obtain ⟨rfl,rfl⟩:=he
  obtain ⟨mJ,gY,rfl,e1,e2⟩:=RC h2
  refine ⟨o::mJ,gY,rfl,?_,e2⟩
  simp [mA,h1,e1]
theorem afU {ls:List Nat} {c:fG} {K:Exit->(Nat->Value)->ae->Prop} {f:Nat->Value} {h:ae} (hi:jH P (xS ls c) K f h):∃f',tV f' f/\jH P c K f' h:=by
 cases ls with
 | nil=>exact ⟨f,λ_=>.inl rfl,hi⟩
 | cons l ls=>exact ⟨_,FU f (l::ls),hi⟩
theorem aII {ops:Array Oper}:∀{gs:List (Option (Nat×Bool)×List jM)} {hs:Hints} {os:List Oper} {i:Nat} {K:Exit->(Nat->Value)->ae->Prop} {f:Nat->Value} {h:ae},
  (∀(k:Nat) (o:Oper),os[k]?=some o->ops[i+k]?=some o)->mA P N ops os=some (oE gs)->(∀g l,(g,l)∈gs->∀o∈l,leaves g o.dst=true)->jH P (ry gs hs).1 K f h->
  ∃f' h',iH P N ops (range' i os.length) f h f' h'/\K .normal f' h':=by
 intro gs
 induction gs with
 | nil=>
  intro hs os i K f h qT hc _ hi
  cases os with
  | nil=>exact ⟨f,h,iH.nil,hi⟩
  | cons o os=>
   obtain ⟨x,xs,_,_,he⟩:=vL hc
   simp [oE] at he
 | cons a gs ih=>
  obtain ⟨g,l⟩:=a
  intro hs os i K f h qT hc hl hi
  simp only [oE] at hc
  obtain ⟨mJ,gY,rfl,c0,c1⟩:=RC hc
  have KB:∀(k:Nat) (o:Oper),mJ[k]?=some o->ops[i+k]?=some o:=by
   intro k o hk
   refine qT k o ?_
   rw [getElem?_append_left (bz hk).1]
   exact hk
  have Tt:∀(k:Nat) (o:Oper),gY[k]?=some o->ops[i+mJ.length+k]?=some o:=by
   intro k o hk
   rw [Nat.add_assoc]
   refine qT _ o ?_
   rw [List.getElem?_append_right (by omega)]
   simpa using hk
  have first:∀{K:(Nat->Value)->ae->Prop},tM P g l K f h->∃f' h',iH P N ops (range' i mJ.length) f h f' h'/\K f' h':=by
   intro K hk
   exact KR KB c0 (alV (λo ho=>hl g l (by simp) o ho) hk)
  have both:∀{dj:Nat->Value} {h₁:ae} {f':Nat->Value} {h':ae},iH P N ops (range' i mJ.length) f h dj h₁->iH P N ops (range' (i+mJ.length) gY.length) dj h₁ f' h'->iH P N ops (range' i (mJ++gY).length) f h f' h':=by
   intro dj h₁ f' h' a b
   rw [List.length_append,<-List.range'_append_1]
   exact a.append b
  have rest:∀{hs:Hints} {dj:Nat->Value} {h₁:ae},jH P (ry gs hs).1 K dj h₁->∃f' h',iH P N ops (range' (i+mJ.length) gY.length) dj h₁ f' h'/\K .normal f' h':=
   λhk=>ih Tt c1 (λg' l' hm=>hl g' l' (by simp [hm])) hk
  cases gs with
  | nil=>
   have E9:jH P (.ops g l) K f h:=by
    cases hs <;> exact hi
   obtain ⟨f',h',r1,r2⟩:=first E9
   have h1:gY=[]:=by
    cases gY with
    | nil=>rfl
    | cons o os=>obtain ⟨x,xs,_,_,he⟩:=vL c1;simp [oE] at he
   subst h1
   exact ⟨f',h',by simpa using r1,r2⟩
  | cons b gs=>
   cases hs with
   | nil=>
    obtain ⟨dj,h₁,r1,r2⟩:=first (K:=λf h=>jH P (ry (b::gs) []).1 K f h) hi
    obtain ⟨f',h',s1,s2⟩:=rest r2
    exact ⟨f',h',both r1 s1,s2⟩
   | cons h0 hs=>
    obtain ⟨dj,h₁,r1,r2⟩:=first (K:=λf h=>jH P (xS h0 (ry (b::gs) hs).1) K f h) hi
    obtain ⟨Ss,hw,r3⟩:=afU r2
    obtain ⟨f',h',s1,s2⟩:=rest r3
    exact ⟨f',h',both r1 (s1.weaken hw),s2⟩
def rj (S:Option Nat) (P:Program) (c:Code) (Q:Exit->Act->World->Prop) (a:Act) (w:World):Prop:=
 ∀(b:Frame) (k:List Item) (cs:List Frame),b.roundOf=S->
  ∃e a' w',Q e a' w'/\ArrivesIn (Machine.fenced P (FR S)) P (lone (b.atR a (.code c:: .inLoop c::k)) cs w) b k cs e a' w'
theorem FR.room (S:Option Nat) (n:Nat):(FR S).room n:=λ_ h=>by cases h
theorem rj.wp {S:Option Nat} {c:Code} {Q:Exit->Act->World->Prop} {a:Act} {w:World} (h:rj S P c Q a w):(Code.loop c).wpIn (FR S) 0 P Q a w:=by
 intro b k cs jE hb hr
 obtain ⟨e,a',w',q,r⟩:=h b k cs jE
 exact ⟨e,a',w',q,.of_steps (.one (fenced_calm hb hr rfl) stepR_loop) r⟩
theorem rj.round {S:Option Nat} {c:Code} {Q:Exit->Act->World->Prop} {a:Act} {w:World} (h:c.wpIn (FR S) 0 P (Exit.then (rj S P c Q) Q) a w):rj S P c Q a w:=by
 intro b k cs jE
 have hb:(FR S).fn b.fn:=trivial
 have hr:(FR S).room (cs.length+1+0):=FR.room S _
 obtain ⟨e,zG,oZ,hq,yd⟩:=h b (.inLoop c::k) cs jE hb hr
 cases e with
 | normal=>
  obtain ⟨aAt,au4,Ng,aBS,aA3⟩:=hq b k cs jE
  exact ⟨aAt,au4,Ng,aBS,.of_steps (StepsIn.trans yd (.one (fenced_calm hb hr rfl) stepR_inLoop)) aA3⟩
 | exit id=>exact ⟨_,zG,oZ,hq,.pass (x:=.inLoop c) rfl (λ_ _=>.inl (by simp)) yd⟩
 | goto l=>exact ⟨_,zG,oZ,hq,.pass (x:=.inLoop c) rfl (λ_ _=>.inl (by simp)) yd⟩
 | ret=>exact ⟨_,zG,oZ,hq,.pass (x:=.inLoop c) rfl (λ_ _=>.inl (by simp)) yd⟩
 | panic ch=>exact ⟨_,zG,oZ,hq,.pass (x:=.inLoop c) rfl (λ_ _=>.inl (by simp)) yd⟩
 | outgrown=>exact ⟨_,zG,oZ,hq,.pass (x:=.inLoop c) rfl (λ_ _=>.inl (by simp)) yd⟩
theorem ajd {l:List jy} (h:l.all (λo=>leaves o.guard o.dst)=true):∀g m,(g,m)∈uC l->∀o∈m,leaves g o.dst=true:=by
 intro g m hm o ho
 have rU:(⟨o.dst,o.op,g⟩:jy)∈oE (uC l):=by
  generalize uC l=gs at hm
  induction gs with
  | nil=>simp at hm
  | cons a gs ih=>
   obtain ⟨g',m'⟩:=a
   simp only [oE,List.mem_append]
   rcases mem_cons.1 hm with he | hm
   ·cases he
    left
    simp only [qM,mem_map]
    exact ⟨o,ho,rfl⟩
   ·exact .inr (ih hm)
 rw [JS] at rU
 rw [all_eq_true] at h
 exact h _ rU
def qD (P:Program) (N:Nat) (out:Bool) (c:Code) (f:Nat->Value) (h:ae) (e:Exit) (f':Nat->Value) (h':ae):Prop:=
 ∀S,(out=true->S=none)->∀B ρ a w,eQ P N B ρ f h a w->rj S P c (zv P N B ρ h w e f' h') a w
theorem rj.mono {S:Option Nat} {c:Code} {Q Q':Exit->Act->World->Prop} {a:Act} {w:World} (h:rj S P c Q a w) (hq:∀e a w,Q e a w->Q' e a w):rj S P c Q' a w:=
 λb k cs jE=>let ⟨e,a',w',q,r⟩:=h b k cs jE;⟨e,a',w',hq _ _ _ q,r⟩
theorem zv.trans {B:Nat} {ρ nM:aO} {h h₁ h':ae} {w oZ:World} {e:Exit} {f':Nat->Value} (T:Tr ρ h w nM h₁ oZ):∀e' a' w',zv P N B nM h₁ oZ e f' h' e' a' w'->zv P N B ρ h w e f' h' e' a' w':=by
 rintro e' a' w' ⟨rfl,av,R,T'⟩
 exact ⟨rfl,av,R,T.trans T'⟩
variable {out : Bool}
theorem qD.next {c:Code} {f dj f':Nat->Value} {h h₁ h':ae} {e:Exit} (a:iy P N out c f h .normal dj h₁) (b:qD P N out c dj h₁ e f' h'):qD P N out c f h e f' h':=by
 intro S hS B ρ ac w R
 refine rj.round (wpIn_mono (a S hS B ρ ac w R) ?_)
 rintro e' a' w' ⟨rfl,av,R',T⟩
 exact (b S hS B av a' w' R').mono (zv.trans T)
theorem qD.leave {c:Code} {f f':Nat->Value} {h h':ae} {e:Exit} (he:e≠ .normal) (a:iy P N out c f h e f' h'):qD P N out c f h e f' h':=by
 intro S hS B ρ ac w R
 refine rj.round (wpIn_mono (a S hS B ρ ac w R) ?_)
 rintro e' a' w' ⟨rfl,av,R',T⟩
 cases e' <;> first | exact absurd rfl he | exact ⟨rfl,av,R',T⟩
theorem qD.run {c:Code} {f f':Nat->Value} {h h':ae} {e:Exit} (a:qD P N out c f h e f' h'):iy P N out (.loop c) f h e f' h':=λS hS B ρ ac w R=>(a S hS B ρ ac w R).wp
theorem iy.seq {x y:Code} {f dj f':Nat->Value} {h h₁ h':ae} {e:Exit} (a:iy P N out x f h .normal dj h₁) (b:iy P N out y dj h₁ e f' h'):iy P N out (.seq x y) f h e f' h':=by
 intro S hS B ρ ac w R
 refine wpIn_seq (wpIn_mono (a S hS B ρ ac w R) ?_)
 rintro e' a' w' ⟨rfl,av,R',T⟩
 exact wpIn_mono (b S hS B av a' w' R') (zv.trans T)
theorem iy.aJx {x y:Code} {f f':Nat->Value} {h h':ae} {e:Exit} (he:e≠ .normal) (a:iy P N out x f h e f' h'):iy P N out (.seq x y) f h e f' h':=by
 intro S hS B ρ ac w R
 refine wpIn_seq (wpIn_mono (a S hS B ρ ac w R) ?_)
 rintro e' a' w' ⟨rfl,av,R',T⟩
 cases e' <;> first | exact absurd rfl he | exact ⟨rfl,av,R',T⟩
theorem iy.block {id:Nat} {c:Code} {f f':Nat->Value} {h h':ae} {e:Exit} (a:iy P N out c f h e f' h'):iy P N out (.block id c) f h (match e with | .exit i=>if i=id then .normal else .exit i | e=>e) f' h':=by
 intro S hS B ρ ac w R
 refine wpIn_block (wpIn_mono (a S hS B ρ ac w R) ?_)
 rintro e' a' w' ⟨rfl,av,R',T⟩
 cases e' with
 | exit i=>
  simp only [Exit.inBlock]
  split
  ·exact ⟨rfl,av,R',T⟩
  ·exact ⟨rfl,av,R',T⟩
 | _=>exact ⟨rfl,av,R',T⟩
theorem iy.cond {c:Operand} {x y:Code} {t:Bool} {f f':Nat->Value} {h h':ae} {e:Exit} (hc:j9 c=true) (ht:ev f c=.bool t) (a:iy P N out (if t then x else y) f h e f' h'):iy P N out (.cond c x y) f h e f' h':=by
 intro S hS B ρ ac w R
 have:=R.ev hc
 rw [ht] at this
 exact wpIn_cond this.zJ (a S hS B ρ ac w R)
theorem iy.region {id:Nat} {ops:Array Oper} {f f':Nat->Value} {h h':ae} (a:iH P N ops (List.range ops.size) f h f' h'):iy P N out (.region id ops false) f h .normal f' h':=by
 intro S hS B ρ ac w R
 refine wpIn_region (a S B ρ ac w R _ ?_)
 intro av a' w' R' T
 exact ⟨rfl,av,R',T⟩
theorem qD.weaken {c:Code} {f dj f':Nat->Value} {h h':ae} {e:Exit} (hw:tV dj f) (hr:qD P N out c dj h e f' h'):qD P N out c f h e f' h':=
 λS hS B ρ a w R=>hr S hS B ρ a w (R.weaken hw)
end
end
section
inductive zB (ops:Array Oper):List Nat->List Nat->Prop
 | nil {S:List Nat}:(∀i,i<ops.size->i∈S)->zB ops S []
 | cons {S:List Nat} {i:Nat} {o:Oper} {l:List Nat}:ops[i]?=some o->i∉S->(∀e∈fY o,e∈S)->zB ops (i::S) l->zB ops S (i::l)
theorem HZ:∀{ops:List Oper} {i:Nat},zI ops i=true->∀(k:Nat) (o:Oper),ops[k]?=some o->∀e∈fY o,e<i+k
 | [],i,_,k,o,hk=>by simp at hk
 | x::ops,i,h,k,o,hk=>by
  simp only [zI,and_eq_true,all_eq_true,decide_eq_true_eq] at h
  cases k with
  | zero=>simp at hk;subst hk;exact h.1
  | succ k=>
   intro e he
   have:=HZ h.2 k o (by simpa using hk) e he
   omega
def ready (ops:Array Oper) (iZ:Array Bool) (i:Nat):Bool:=
 !iZ.getD i true&&((ops[i]?).map (·.after.all λe=> !Region.binds .any e||iZ.getD e.on false)).getD false
theorem aAT (ops:Array Oper) (fuel t:Nat) (iZ:Array Bool) (acc:List Nat):
  Region.linearise.go .any ops (fuel+1) t iZ acc=
   match ((List.range ops.size).filter (ready ops iZ))[t%((List.range ops.size).filter (ready ops iZ)).length]? with
   | some i=>Region.linearise.go .any ops fuel (t / ((List.range ops.size).filter (ready ops iZ)).length) (iZ.setIfInBounds i true) (i::acc)
   | none=>acc.reverse:=by
 rw [Region.linearise.go]
 rfl
theorem ap4 {ops:Array Oper} {iZ:Array Bool} {S:List Nat} (hl:iZ.size=ops.size) (hS:∀i,i<ops.size->(iZ.getD i false=true↔i∈S)) (hb:∀(k:Nat) (o:Oper),ops[k]?=some o->∀e∈fY o,e<k)
  {i:Nat} (hi:i<ops.size):ready ops iZ i=true↔i∉S/\∀o,ops[i]?=some o->∀e∈fY o,e∈S:=by
 have ho:ops[i]?=some ops[i]:=by simp [hi]
 have e1:iZ.getD i true=iZ.getD i false:=by simp [Array.getD,hl,hi]
 unfold ready
 rw [e1,ho]
 simp only [map_some,getD_some,and_eq_true,Bool.not_eq_true',Option.some.injEq,forall_eq']
 have h1:iZ.getD i false=false↔i∉S:=by
  rw [<-hS i hi]
  cases iZ.getD i false <;> simp
 rw [h1]
 refine and_congr_right λ_=>?_
 rw [Array.all_eq_true']
 constructor
 ·intro h e he
  have aF:=hb i _ ho e he
  unfold fY at he
  simp only [List.mem_filterMap] at he
  obtain ⟨x,hx,yB⟩:=he
  split at yB
  ·rename_i Cm
   simp at yB
   subst yB
   have:=h x (by simpa using hx)
   simp only [or_eq_true,Bool.not_eq_true',Cm] at this
   exact (hS _ (by omega)).1 (by simpa using this)
  ·cases yB
 ·intro h x hx
  cases Cm:Region.binds .any x with
  | false=>simp
  | true=>
   have hm:x.on∈fY ops[i]:=by
    unfold fY
    simp only [List.mem_filterMap]
    exact ⟨x,by simpa using hx,by simp [Cm]⟩
   have aF:=hb i _ ho _ hm
   simp [(hS x.on (by omega)).2 (h _ hm)]
theorem Lo:∀{l m:List Nat},l.Nodup->l ⊆ m->l.length<=m.length
 | [],m,_,_=>by simp
 | x::l,m,hd,hs=>by
  have hx:x∈m:=hs (by simp)
  rw [nodup_cons] at hd
  have h1:l ⊆ m.erase x:=by
   intro y hy
   have bt:y≠x:=by rintro rfl;exact hd.1 hy
   exact (List.mem_erase_of_ne bt).2 (hs (by simp [hy]))
  have h2:=Lo hd.2 h1
  rw [List.length_erase_of_mem hx] at h2
  have:0<m.length:=List.length_pos_of_mem hx
  simp
  omega
theorem ay8 {n:Nat} {S:List Nat} (hlen:S.length<n):∃i,i<n/\i∉S/\∀k,k<i->k∈S:=by
 have hex:∃i,i<n/\i∉S:=by
  apply byContradiction
  intro dV
  have gy:∀i,i<n->i∈S:=λi hi=>byContradiction λh=>dV ⟨i,hi,h⟩
  have Fg:List.range n ⊆ S:=λi hi=>gy i (mem_range.1 hi)
  have:=Lo (List.nodup_range (n:=n)) Fg
  simp at this
  omega
 have key:∀m,(∃i,i<m/\i<n/\i∉S)->∃i,i<n/\i∉S/\∀k,k<i->k∈S:=by
  intro m
  induction m with
  | zero=>rintro ⟨i,h,_⟩;omega
  | succ m ih=>
   rintro ⟨i,h1,h2,h3⟩
   by_cases fa:∃i,i<m/\i<n/\i∉S
   ·exact ih fa
   ·have eZ:i=m:=by
     by_cases e:i=m
     ·exact e
     ·exact absurd ⟨i,by omega,h2,h3⟩ fa
    subst eZ
    refine ⟨i,h2,h3,λk hk=>byContradiction λE0=>fa ⟨k,hk,by omega,E0⟩⟩
 obtain ⟨i,h1,h2⟩:=hex
 exact key n ⟨i,h1,h1,h2⟩
theorem agO {ops:Array Oper} (hb:∀(k:Nat) (o:Oper),ops[k]?=some o->∀e∈fY o,e<k):∀(fuel t:Nat) (iZ:Array Bool) (acc:List Nat),iZ.size=ops.size->
  (∀i,i<ops.size->(iZ.getD i false=true↔i∈acc))->acc.Nodup->(∀i∈acc,i<ops.size)->acc.length+fuel=ops.size->
  ∃l,Region.linearise.go .any ops fuel t iZ acc=acc.reverse++l/\zB ops acc l
 | 0,t,iZ,acc,hl,hS,hd,aF,hf=>by
  refine ⟨[],by simp [Region.linearise.go],.nil ?_⟩
  intro i hi
  apply byContradiction
  intro h
  have Fg:(i::acc) ⊆ List.range ops.size:=by
   intro x hx
   rcases mem_cons.1 hx with rfl | hx
   ·simpa using hi
   ·simpa using aF x hx
  have:=Lo (nodup_cons.2 ⟨h,hd⟩) Fg
  simp at this
  omega
 | fuel+1,t,iZ,acc,hl,hS,hd,aF,hf=>by
  rw [aAT]
  obtain ⟨i0,Cu,aBk,aBj⟩:=ay8 (n:=ops.size) (S:=acc) (by omega)
  have tu:ready ops iZ i0=true:=(ap4 hl hS hb Cu).2 ⟨aBk,λo ho e he=>aBj e (hb i0 o ho e he)⟩
  have iN:0<((List.range ops.size).filter (ready ops iZ)).length:=List.length_pos_of_mem (mem_filter.2 ⟨mem_range.2 Cu,tu⟩)
  have cA:∃i,((List.range ops.size).filter (ready ops iZ))[t%((List.range ops.size).filter (ready ops iZ)).length]?=some i:=⟨_,getElem?_eq_getElem (Nat.mod_lt _ iN)⟩
  obtain ⟨i,hi⟩:=cA
  rw [hi]
  have rU:=mem_of_getElem? hi
  simp only [mem_filter,mem_range] at rU
  obtain ⟨fK,aB1⟩:=rU
  obtain ⟨wm,Ar⟩:=(ap4 hl hS hb fK).1 aB1
  obtain ⟨l,h1,h2⟩:=agO hb fuel (t / ((List.range ops.size).filter (ready ops iZ)).length) (iZ.setIfInBounds i true) (i::acc) (by simpa using hl) (by
   intro k hk
   by_cases e:k=i
   ·subst e;simp [Array.getD,hl,hk]
   ·have:(iZ.setIfInBounds i true).getD k false=iZ.getD k false:=by
     simp only [Array.getD_eq_getD_getElem?,Array.getElem?_setIfInBounds]
     rw [if_neg (Ne.symm e)]
    rw [this,hS k hk]
    simp [e]) (nodup_cons.2 ⟨wm,hd⟩) (by
   intro k hk
   rcases mem_cons.1 hk with rfl | hk
   ·exact fK
   ·exact aF k hk) (by simp;omega)
  refine ⟨i::l,by simp only [h1];simp,?_⟩
  exact .cons (o:=ops[i]) (by simp [fK]) wm (Ar _ (by simp [fK])) h2
theorem ajg {ops:Array Oper} (hb:zI ops.toList 0=true) (t:Nat):zB ops [] (Region.linearise .any ops t):=by
 have jZ:∀(k:Nat) (o:Oper),ops[k]?=some o->∀e∈fY o,e<k:=by
  intro k o hk e he
  have:=HZ hb k o (by simpa using hk) e he
  omega
 obtain ⟨l,h1,h2⟩:=agO jZ ops.size t (replicate ops.size false) [] (by simp) (by intro i hi;simp [Array.getD,hi]) .nil (by simp) (by simp)
 have:Region.linearise .any ops t=l:=by
  unfold Region.linearise
  rw [h1]
  simp
 rw [this]
 exact h2
end
section
theorem R9 {f f':Nat->Value}:∀{l:List Operand},(∀t∈tmpsOf l,f t=f' t)->∀x∈l,ev f x=ev f' x
 | [],_,x,hx=>by simp at hx
 | y::l,h,x,hx=>by
  have h':∀t∈tmpsOf l,f t=f' t:=by
   intro t ht
   apply h
   cases y <;> simp [tmpsOf,ht]
  rcases mem_cons.1 hx with rfl | hx
  ·cases x with
   | tmp t=>exact h t (by simp [tmpsOf])
   | _=>rfl
  ·exact R9 h' x hx
theorem FK {g g':Operand->Value} {xs:List Operand} (h:∀x∈xs,g x=g' x):xs.map g=xs.map g':=List.map_congr_left h
theorem Lt {g g':Operand->Value} {x:Option Operand} (h:∀y∈x.toList,g y=g' y):x.map g=x.map g':=by
 cases x with
 | none=>rfl
 | some y=>simp [h y (by simp)]
theorem Md {g g':Operand->Value} {ps:List (Nat×Nat×Operand)} (h:∀x∈ps.map (·.2.2),g x=g' x):(ps.map λ(o,s,x)=>(o,s,g x))=ps.map λ(o,s,x)=>(o,s,g' x):=by
 apply List.map_congr_left
 rintro ⟨o,s,x⟩ hx
 simp [h x (by simp;exact ⟨o,s,hx⟩)]
theorem aCM {o:qF} {g g':Operand->Value} (h:∀x∈o.iQ,g x=g' x):j7 o g=j7 o g':=by
 cases o with
 | FL mx xs=>
  simp only [j7]
  rw [FK (xs:=xs) h]
 | MM x lo hi=>
  simp only [j7,qF.iQ] at*
  rw [h x (by simp),Lt (x:=lo) (λy hy=>h y (by simp at hy⊢;exact .inr (.inl hy))),Lt (x:=hi) (λy hy=>h y (by simp at hy⊢;exact .inr (.inr hy)))]
 | MO e s x lo hi=>
  simp only [j7,qF.iQ] at*
  rw [h x (by simp),Lt (x:=lo) (λy hy=>h y (by simp at hy⊢;exact .inr (.inl hy))),Lt (x:=hi) (λy hy=>h y (by simp at hy⊢;exact .inr (.inr hy)))]
 | fn f first captured=>
  simp only [j7,qF.iQ] at*
  rw [FK (xs:=first) (λx hx=>h x (by simp [hx])),FK (xs:=captured) (λx hx=>h x (by simp [hx]))]
 | build zero parts=>
  simp only [j7]
  rw [Md (ps:=parts) h]
 | _=>simp [qF.iQ] at h;simp [j7,h]
theorem aCJ {o:pP} {g g':Operand->Value} (h:∀x∈o.iQ,g x=g' x) (H:ae):gr o g H=gr o g' H:=by
 cases o <;> simp [pP.iQ] at h <;> simp [gr,h]
theorem aCG {o:pO} {g g':Operand->Value} (h:∀x∈o.iQ,g x=g' x) (H:ae):gS o g H=gS o g' H:=by
 cases o with
 | nZ e n zs ps=>
  simp only [gS]
  rw [Md (ps:=ps) h]
 | fl a=>
  cases a with
  | nZ e n zs ps=>
   simp only [gS]
   rw [Md (ps:=ps) h]
  | _=>simp [pO.iQ,np.iQ] at h;simp [gS,h]
 | _=>simp [pO.iQ] at h;simp [gS,h]
theorem MS {P:Program} {io:iG} {f f':Nat->Value} {h:ae} {K:Value->ae->Prop} (hf:∀t∈tmpsOf io.iQ,f t=f' t):dE P io f h K↔dE P io f' h K:=by
 have he:=R9 hf
 cases io with
 | p o=>simp only [dE];rw [aCM he]
 | l o=>simp only [dE];rw [aCJ he]
 | e o=>simp only [dE];rw [aCG he]
 | call g args=>
  simp only [dE]
  rw [FK (xs:=args) he]
 | lV x args=>simp only [dE];rw [he x (by simp [iG.iQ]),FK (xs:=args) (λy hy=>he y (by simp [iG.iQ,hy]))]
structure Trace (P:Program) (l:List di) (j0:Nat) (F:Nat->Nat->Value) (H:Nat->ae) (V:Nat->Value):Prop where
 yL:∀k o,l[k]?=some o->F (j0+k+1)=dS (F (j0+k)) o.op.dst (V (j0+k))
 SE:∀k o,l[k]?=some o->sV o.op.guard (F (j0+k))
 yes:∀k o,l[k]?=some o->jv o.op.guard (F (j0+k))=true->dE P o.op.op (F (j0+k)) (H (j0+k)) λv h'=>v=V (j0+k)/\h'=H (j0+k+1)
 no:∀k o,l[k]?=some o->jv o.op.guard (F (j0+k))=false->V (j0+k)=undef/\H (j0+k+1)=H (j0+k)
 W1:∀e oe k ok lo,l[e]?=some oe->oe.op.op.dR=true->l[k]?=some ok->ok.op.op=.l lo->jv ok.op.guard (F (j0+k))=true->e<k->ok.pre.testBit (j0+e)=false->
  gr lo (ev (F (j0+k))) (H (j0+e))=some (V (j0+k))
 Sr:∀k ok lo e oe,l[k]?=some ok->ok.op.op=.l lo->jv ok.op.guard (F (j0+k))=true->l[e]?=some oe->oe.op.op.dR=true->k<e->oe.pre.testBit (j0+k)=false->
  gr lo (ev (F (j0+k))) (H (j0+e+1))=some (V (j0+k))
 flo:∀k ok a,l[k]?=some ok->ok.op.op=.e (.fl a)->jv ok.op.guard (F (j0+k))=true->∃u,dh (H (j0+k+1)) (V (j0+k))=some u/\
  ∀e oe,l[e]?=some oe->oe.op.op.dR=true->k<e->oe.pre.testBit (j0+k)=false->dh (H (j0+e+1)) (V (j0+k))=some u
theorem Ry {pre:Nat} {lo:pP} {f:Nat->Value} {v:Value}:∀{hs:List (Nat×ae)},xP pre lo f v hs->∀e H,(e,H)∈hs->pre.testBit e=false->gr lo (ev f) H=some v
 | [],_,e,H,hm,_=>by simp at hm
 | (e',H')::r,h,e,H,hm,hp=>by
  simp only [xP] at h
  rcases mem_cons.1 hm with hq | hm
  ·cases hq
   rw [if_neg (by rw [hp];simp)] at h
   exact h.1
  ·split at h
   ·exact Ry h e H hm hp
   ·exact Ry h.2 e H hm hp
theorem Ej {pre:Nat} {H:ae}:∀{ls:fx},mz pre H ls->∀j lo f v,(j,lo,f,v)∈ls->pre.testBit j=false->gr lo (ev f) H=some v
 | [],_,j,lo,f,v,hm,_=>by simp at hm
 | (j',pJ,f',v')::r,h,j,lo,f,v,hm,hp=>by
  simp only [mz] at h
  rcases mem_cons.1 hm with hq | hm
  ·cases hq
   rw [if_neg (by rw [hp];simp)] at h
   exact h.1
  ·split at h
   ·exact Ej h j lo f v hm hp
   ·exact Ej h.2 j lo f v hm hp
def DV (P:Program) (l:List di) (j:Nat) (aR:List (Nat×ae)) (aM:fx) (K:(Nat->Value)->ae->Prop) (f:Nat->Value) (h:ae):Prop:=
 ∃F H V,F j=f/\H j=h/\K (F (j+l.length)) (H (j+l.length))/\Trace P l j F H V/\
  (∀e Hh,(e,Hh)∈aR->∀k ok lo,l[k]?=some ok->ok.op.op=.l lo->jv ok.op.guard (F (j+k))=true->ok.pre.testBit e=false->gr lo (ev (F (j+k))) Hh=some (V (j+k)))/\
  (∀i lo ff v,(i,lo,ff,v)∈aM->∀e oe,l[e]?=some oe->oe.op.op.dR=true->oe.pre.testBit i=false->gr lo (ev ff) (H (j+e+1))=some v)
theorem Uk {P:Program}:∀{l:List di} {j:Nat} {aR:List (Nat×ae)} {aM:fx} {K:(Nat->Value)->ae->Prop} {f:Nat->Value} {h:ae},mc P l j aR aM K f h->DV P l j aR aM K f h
 | [],j,aR,aM,K,f,h,hi=>
  ⟨λ_=>f,λ_=>h,λ_=>undef,rfl,rfl,hi,⟨λk o hk=>by simp at hk,λk o hk=>by simp at hk,λk o hk=>by simp at hk,λk o hk=>by simp at hk,λe oe k ok lo hk=>by simp at hk,λk ok lo e oe hk=>by simp at hk,λk ok a hk=>by simp at hk⟩,
   λe Hh hm k ok lo hk=>by simp at hk,λi lo ff v hm e oe hk=>by simp at hk⟩
 | o::os,j,aR,aM,K,f,h,hi=>by
  -- gB rest,and how gB first step is laid ahead of it
  have key:∀(v:Value) (h':ae) (pY:List (Nat×ae)) (pK:fx),sV o.op.guard f->mc P os (j+1) pY pK K (dS f o.op.dst v) h'->
    (∀p∈aR,p∈pY)->(∀p∈aM,p∈pK)->(o.op.op.dR=true->(j,h)∈pY)->(∀lo,o.op.op=.l lo->jv o.op.guard f=true->(j,lo,f,v)∈pK)->
    (jv o.op.guard f=true->dE P o.op.op f h λu g=>u=v/\g=h')->(jv o.op.guard f=false->v=undef/\h'=h)->
    (∀lo,o.op.op=.l lo->jv o.op.guard f=true->∀e Hh,(e,Hh)∈aR->o.pre.testBit e=false->gr lo (ev f) Hh=some v)->
    (o.op.op.dR=true->∀i lo ff u,(i,lo,ff,u)∈aM->o.pre.testBit i=false->gr lo (ev ff) h'=some u)->
    (∀a,o.op.op=.e (.fl a)->jv o.op.guard f=true->∃u,dh h' v=some u/\(j,.obj (.const v),f,u)∈pK)->
    DV P (o::os) j aR aM K f h:=by
   intro v h' pY pK j5 aB4 hh hl hE hL hy hn hp hf qP
   obtain ⟨F,H,V,f1,f2,f3,T,fp,ff⟩:=Uk aB4
   have Lv:∀{α:Type} (x:α) (G:Nat->α),∃G2:Nat->α,G2 j=x/\(∀k,G2 (j+k+1)=G (j+1+k))/\∀k,G2 (j+(k+1))=G (j+1+k):=by
    intro α x G
    refine ⟨λk=>if k=j then x else G k,by simp,λk=>?_,λk=>?_⟩
    ·show (if j+k+1=j then x else G (j+k+1))=_
     rw [if_neg (by omega)]
     congr 1
     omega
    ·show (if j+(k+1)=j then x else G (j+(k+1)))=_
     rw [if_neg (by omega)]
     congr 1
     omega
   obtain ⟨F2,vR,eF1,eF⟩:=Lv f F
   obtain ⟨H2,JK,xY,eH⟩:=Lv h H
   obtain ⟨V2,zU,eV1,eV⟩:=Lv v V
   have az5:F2 (j+1)=F (j+1):=eF1 0
   have JL:H2 (j+1)=H (j+1):=xY 0
   refine ⟨F2,H2,V2,vR,JK,?_,?_,?_,?_⟩
   ·rw [length_cons,eF,eH]
    exact f3
   ·constructor
    ·intro k ok hk
     cases k with
     | zero=>
      simp at hk;subst hk
      simp only [add_zero]
      rw [az5,vR,zU]
      exact f1
     | succ k=>
      have:=T.yL k ok (by simpa using hk)
      rw [eF1,eF,eV,show j+1+(k+1)=j+1+k+1 by omega]
      exact this
    ·intro k ok hk
     cases k with
     | zero=>
      simp at hk;subst hk
      simp only [add_zero]
      rw [vR]
      exact j5
     | succ k=>
      rw [eF]
      exact T.SE k ok (by simpa using hk)
    ·intro k ok hk hw
     cases k with
     | zero=>
      simp at hk;subst hk
      simp only [add_zero] at hw⊢
      rw [vR] at hw
      rw [JL,vR,JK,zU,f2]
      exact hy hw
     | succ k=>
      rw [eF] at hw
      rw [xY,eF,eH,eV,show j+1+(k+1)=j+1+k+1 by omega]
      exact T.yes k ok (by simpa using hk) hw
    ·intro k ok hk hw
     cases k with
     | zero=>
      simp at hk;subst hk
      simp only [add_zero] at hw⊢
      rw [vR] at hw
      rw [JL,JK,zU,f2]
      exact hn hw
     | succ k=>
      rw [eF] at hw
      rw [xY,eH,eV,show j+1+(k+1)=j+1+k+1 by omega]
      exact T.no k ok (by simpa using hk) hw
    ·intro e oe k ok lo he gI hk fa hw aF iO
     cases k with
     | zero=>omega
     | succ k=>
      rw [eF] at hw⊢
      rw [eV]
      cases e with
      | zero=>
       simp at he;subst he
       simp only [add_zero] at iO⊢
       rw [JK]
       exact fp j h (hE gI) k ok lo (by simpa using hk) fa hw iO
      | succ e=>
       rw [eH]
       rw [show j+(e+1)=j+1+e by omega] at iO
       exact T.W1 e oe k ok lo (by simpa using he) gI (by simpa using hk) fa hw (by omega) iO
    ·intro k ok lo e oe hk fa hw he gI aF iO
     cases e with
     | zero=>omega
     | succ e=>
      rw [xY,show j+1+(e+1)=j+1+e+1 by omega]
      cases k with
      | zero=>
       simp at hk;subst hk
       simp only [add_zero] at hw iO⊢
       rw [vR] at hw⊢
       rw [zU]
       exact ff j lo f v (hL lo fa hw) e oe (by simpa using he) gI iO
      | succ k=>
       rw [eF] at hw⊢
       rw [eV]
       rw [show j+(k+1)=j+1+k by omega] at iO
       exact T.Sr k ok lo e oe (by simpa using hk) fa hw (by simpa using he) gI (by omega) iO
    ·intro k ok a hk dB hw
     cases k with
     | zero=>
      simp at hk;subst hk
      simp only [add_zero] at hw⊢
      rw [vR] at hw
      obtain ⟨u,u1,u2⟩:=qP a dB hw
      refine ⟨u,by rw [JL,zU,f2];exact u1,?_⟩
      intro e oe he gI aF iO
      cases e with
      | zero=>omega
      | succ e=>
       rw [xY,show j+1+(e+1)=j+1+e+1 by omega,zU]
       exact ff j (.obj (.const v)) f u u2 e oe (by simpa using he) gI iO
     | succ k=>
      rw [eF] at hw
      obtain ⟨u,u1,u2⟩:=T.flo k ok a (by simpa using hk) dB hw
      refine ⟨u,by rw [xY,eV,show j+1+(k+1)=j+1+k+1 by omega];exact u1,?_⟩
      intro e oe he gI aF iO
      cases e with
      | zero=>omega
      | succ e=>
       rw [xY,show j+1+(e+1)=j+1+e+1 by omega,eV]
       rw [show j+(k+1)=j+1+k by omega] at iO
       exact u2 e oe (by simpa using he) gI (by omega) iO
   ·intro e Hh hm k ok lo hk fa hw iO
    cases k with
    | zero=>
     simp at hk;subst hk
     simp only [add_zero] at hw⊢
     rw [vR] at hw⊢
     rw [zU]
     exact hp lo fa hw e Hh hm iO
    | succ k=>
     rw [eF] at hw⊢
     rw [eV]
     exact fp e Hh (hh _ hm) k ok lo (by simpa using hk) fa hw iO
   ·intro i lo ff' u hm e oe he gI iO
    cases e with
    | zero=>
     simp at he;subst he
     simp only [add_zero]
     rw [JL,f2]
     exact hf gI i lo ff' u hm iO
    | succ e=>
     rw [xY,show j+1+(e+1)=j+1+e+1 by omega]
     exact ff i lo ff' u (hl _ hm) e oe (by simpa using he) gI iO
  have go:sV o.op.guard f->jv o.op.guard f=true->lX P o.op.op o.pre j aR aM f h (λaR aM v h'=>mc P os (j+1) aR aM K (dS f o.op.dst v) h')->DV P (o::os) j aR aM K f h:=λj5 hw hd=>by
   have RY:o.op.op.dR=true->(∀a,o.op.op≠ .e (.fl a))->dE P o.op.op f h (λv h'=>mz o.pre h' aM/\mc P os (j+1) (aR++[(j,h)]) aM K (dS f o.op.dst v) h')->DV P (o::os) j aR aM K f h:=λhE rV hs=>by
    have mX:∀lo,o.op.op≠ .l lo:=by intro lo e;rw [e] at hE;cases hE
    have ex:∃v h',dE P o.op.op f h (λu g=>u=v/\g=h')/\mz o.pre h' aM/\mc P os (j+1) (aR++[(j,h)]) aM K (dS f o.op.dst v) h':=by
     generalize o.op.op=io at hs⊢
     cases io with
     | p po=>
      simp only [dE,gv] at hs⊢
      split at hs
      ·exact ⟨_,_,⟨rfl,rfl⟩,hs⟩
      ·exact hs.elim
     | l lo=>
      simp only [dE,gv] at hs⊢
      split at hs
      ·exact ⟨_,_,⟨rfl,rfl⟩,hs⟩
      ·exact hs.elim
     | e eo=>
      simp only [dE,oc] at hs⊢
      split at hs
      ·exact ⟨_,_,⟨rfl,rfl⟩,hs⟩
      ·exact hs.elim
     | call g args=>
      obtain ⟨v,h',hc,hk⟩:=hs
      exact ⟨v,h',⟨v,h',hc,rfl,rfl⟩,hk⟩
     | lV x args=>
      simp only [dE,uo] at hs⊢
      split at hs
      ·obtain ⟨nB,v,h',hc,hk⟩:=hs
       exact ⟨v,h',⟨nB,v,h',hc,rfl,rfl⟩,hk⟩
      ·obtain ⟨nB,v,h',hc,hk⟩:=hs
       exact ⟨v,h',⟨nB,v,h',hc,rfl,rfl⟩,hk⟩
      ·exact hs.elim
    obtain ⟨v,h',s1,s2,s3⟩:=ex
    exact key v h' _ _ j5 s3 (λp hp=>by simp [hp]) (λp hp=>hp) (λ_=>by simp) (λlo e=>absurd e (mX lo)) (λ_=>s1) (λhf=>by rw [hw] at hf;cases hf) (λlo e=>absurd e (mX lo))
     (λ_ i lo ff u hm iO=>Ej s2 i lo ff u hm iO) (λa e=>absurd e (rV a))
   cases dB:o.op.op with
   | p po=>
    rw [dB] at hd
    simp only [lX,gv] at hd
    split at hd
    ·rename_i v hv
     exact key v h _ _ j5 hd (λp hp=>hp) (λp hp=>hp) (λhE=>by rw [dB] at hE;cases hE) (λlo e=>by rw [dB] at e;cases e) (λ_=>by rw [dB];simp [dE,gv,hv]) (λhf=>by rw [hw] at hf;cases hf)
      (λlo e=>by rw [dB] at e;cases e) (λhE=>by rw [dB] at hE;cases hE) (λa e=>by rw [dB] at e;cases e)
    ·exact hd.elim
   | l lo=>
    rw [dB] at hd
    simp only [lX,gv] at hd
    split at hd
    ·rename_i v hv
     exact key v h _ _ j5 hd.2 (λp hp=>hp) (λp hp=>by simp [hp]) (λhE=>by rw [dB] at hE;cases hE) (λpJ e _=>by rw [dB] at e;cases e;simp) (λ_=>by rw [dB];simp [dE,gv,hv]) (λhf=>by rw [hw] at hf;cases hf)
      (λpJ e _ e' Hh hm iO=>by rw [dB] at e;cases e;exact Ry hd.1 e' Hh hm iO) (λhE=>by rw [dB] at hE;cases hE) (λa e=>by rw [dB] at e;cases e)
    ·exact hd.elim
   | e eo=>
    cases eo with
    | fl a=>
     rw [dB] at hd
     simp only [lX,oc] at hd
     split at hd
     ·rename_i v h' hv
      simp only [gv] at hd
      split at hd
      ·rename_i u hu
       exact key v h' _ _ j5 hd.2 (λp hp=>by simp [hp]) (λp hp=>by simp [hp]) (λ_=>by simp) (λlo e=>by rw [dB] at e;cases e) (λ_=>by rw [dB];simp [dE,oc,hv]) (λhf=>by rw [hw] at hf;cases hf)
        (λlo e=>by rw [dB] at e;cases e) (λ_ i lo ff u hm iO=>Ej hd.1 i lo ff u hm iO) (λa' _ _=>⟨u,hu,by simp⟩)
      ·exact hd.elim
     ·exact hd.elim
    | _=>exact RY (by rw [dB];rfl) (λa e=>by rw [dB] at e;cases e) (by rw [dB] at hd⊢;exact hd)
   | call g args=>exact RY (by rw [dB];rfl) (λa e=>by rw [dB] at e;cases e) (by rw [dB] at hd⊢;exact hd)
   | lV x args=>exact RY (by rw [dB];rfl) (λa e=>by rw [dB] at e;cases e) (by rw [dB] at hd⊢;exact hd)
  have skip:sV o.op.guard f->jv o.op.guard f=false->xX o.op.op o.pre j aR aM h (λaR aM v h'=>mc P os (j+1) aR aM K (dS f o.op.dst v) h')->DV P (o::os) j aR aM K f h:=λj5 hw hd=>by
   unfold xX at hd
   split at hd
   ·rename_i hE
    exact key undef h _ _ j5 hd (λp hp=>hp) (λp hp=>hp) (λgI=>by rw [hE] at gI;cases gI) (λlo _ hf=>by rw [hw] at hf;cases hf) (λhf=>by rw [hw] at hf;cases hf) (λ_=>⟨rfl,rfl⟩)
     (λlo _ hf=>by rw [hw] at hf;cases hf) (λgI=>by rw [hE] at gI;cases gI) (λa _ hf=>by rw [hw] at hf;cases hf)
   ·rename_i hE
    exact key undef h _ _ j5 hd.2 (λp hp=>by simp [hp]) (λp hp=>hp) (λ_=>by simp) (λlo _ hf=>by rw [hw] at hf;cases hf) (λhf=>by rw [hw] at hf;cases hf) (λ_=>⟨rfl,rfl⟩)
     (λlo _ hf=>by rw [hw] at hf;cases hf) (λ_ i lo ff u hm iO=>Ej hd.1 i lo ff u hm iO) (λa _ hf=>by rw [hw] at hf;cases hf)
  simp only [mc] at hi
  split at hi
  ·rename_i lG
   exact go (by rw [lG];trivial) (by rw [lG];rfl) hi
  ·rename_i s b lG
   obtain ⟨e1,e2⟩:=J7 hi
   rcases e2 with ⟨e2,e3⟩ | ⟨e2,e3⟩
   ·exact go (by rw [lG];exact e1) (by rw [lG];exact e2) e3
   ·exact skip (by rw [lG];exact e1) (by rw [lG];exact e2) e3
def uv (g:Option (Nat×Bool)) (l:List kJ):List di:=l.map λo=>⟨⟨o.dst,o.op,g⟩,o.pre⟩
def uw:List (Option (Nat×Bool)×List kJ)->List di
 | []=>[]
 | (g,l)::gs=>uv g l++uw gs
theorem JD:∀os:List di,uw (xV os)=os
 | []=>rfl
 | o::os=>by
  have ih:=JD os
  simp only [xV]
  cases hg:xV os with
  | nil=>
   rw [hg] at ih
   simp only [uw] at ih
   subst ih
   simp [uw,uv]
  | cons a gs=>
   obtain ⟨g,l⟩:=a
   rw [hg] at ih
   simp only
   split
   ·rename_i he
    simp only [uw,uv,map_cons,cons_append] at ih⊢
    rw [ih,<-he]
   ·simp only [uw,uv,map_cons,List.map_nil,cons_append,List.nil_append] at ih⊢
    rw [ih]
theorem af5 {l:List di} (h:l.all (λo=>leaves o.op.guard o.op.dst)=true):∀g m,(g,m)∈xV l->∀o∈m,leaves g o.dst=true:=by
 intro g m hm o ho
 have rU:(⟨⟨o.dst,o.op,g⟩,o.pre⟩:di)∈uw (xV l):=by
  generalize xV l=gs at hm
  induction gs with
  | nil=>simp at hm
  | cons a gs ih=>
   obtain ⟨g',m'⟩:=a
   simp only [uw,List.mem_append]
   rcases mem_cons.1 hm with he | hm
   ·cases he
    left
    simp only [uv,mem_map]
    exact ⟨o,ho,rfl⟩
   ·exact .inr (ih hm)
 rw [JD] at rU
 rw [all_eq_true] at h
 exact h _ rU
theorem af9 {P:Program} {io:iG} {pre j:Nat} {aR:List (Nat×ae)} {aM:fx} {f:Nat->Value} {h:ae} {K K':List (Nat×ae)->fx->Value->ae->Prop} (hm:∀a b v h,K a b v h->K' a b v h)
  (hs:lX P io pre j aR aM f h K):lX P io pre j aR aM f h K':=by
 cases io with
 | p po=>simp only [lX,gv] at hs⊢;split at hs <;> first | exact hm _ _ _ _ hs | exact hs.elim
 | l lo=>simp only [lX,gv] at hs⊢;split at hs <;> first | exact ⟨hs.1,hm _ _ _ _ hs.2⟩ | exact hs.elim
 | e eo=>
  cases eo with
  | fl a=>
   simp only [lX,oc,gv] at hs⊢
   split at hs
   ·split at hs <;> first | exact ⟨hs.1,hm _ _ _ _ hs.2⟩ | exact hs.elim
   ·exact hs.elim
  | _=>simp only [lX,oc] at hs⊢;split at hs <;> first | exact ⟨hs.1,hm _ _ _ _ hs.2⟩ | exact hs.elim
 | call g args=>exact sk.mono hs λv h hk=>⟨hk.1,hm _ _ _ _ hk.2⟩
 | lV x args=>simp only [lX,uo] at hs⊢;split at hs <;> first | exact ⟨hs.1,hs.2.mono λv h hk=>⟨hk.1,hm _ _ _ _ hk.2⟩⟩ | exact hs.elim
theorem af8 {io:iG} {pre j:Nat} {aR:List (Nat×ae)} {aM:fx} {h:ae} {K K':List (Nat×ae)->fx->Value->ae->Prop} (hm:∀a b v h,K a b v h->K' a b v h)
  (hs:xX io pre j aR aM h K):xX io pre j aR aM h K':=by
 unfold xX at hs⊢
 split at hs
 ·exact hm _ _ _ _ hs
 ·exact ⟨hs.1,hm _ _ _ _ hs.2⟩
theorem Yk {f:Nat->Value} {d:Option Nat} {s:Nat} (hd:d≠some s) (v:Value):dS f d v s=f s:=by
 cases ho:d with
 | none=>rfl
 | some x=>
  have:s≠x:=by rintro rfl;exact hd ho
  simp [dS,tS,this]
theorem agI {P:Program} {g:Option (Nat×Bool)} {r:List di} {K:(Nat->Value)->ae->Prop}:∀{l:List kJ} {j:Nat} {aR:List (Nat×ae)} {aM:fx} {f:Nat->Value} {h:ae},(∀o∈l,leaves g o.dst=true)->
  (∀s b,g=some (s,b)->wL (f s)=false/\rf (f s) b=true)->
  pz P l j aR aM (λaR aM f h=>mc P r (j+l.length) aR aM K f h) f h->mc P (uv g l++r) j aR aM K f h:=by
 intro l
 induction l with
 | nil=>intro j aR aM f h _ _ hk;exact hk
 | cons o l ih=>
  intro j aR aM f h hl hg hk
  simp only [pz] at hk
  simp only [uv,map_cons,cons_append,mc]
  have step:lX P o.op o.pre j aR aM f h λaR aM v h'=>mc P (uv g l++r) (j+1) aR aM K (dS f o.dst v) h':=by
   refine af9 (λa b v h' bD=>?_) hk
   refine ih (λo' dX=>hl o' (by simp [dX])) ?_ ?_
   ·intro s bb hs
    have hd:o.dst≠some s:=by have:=hl o (by simp);rw [hs] at this;simpa [leaves] using this
    rw [Yk hd]
    exact hg s bb hs
   ·rw [length_cons] at bD
    rw [show j+1+l.length=j+(l.length+1) by omega]
    exact bD
  cases lG:g with
  | none=>rw [lG] at step;exact step
  | some sb=>
   obtain ⟨s,b⟩:=sb
   obtain ⟨e1,e2⟩:=hg s b lG
   rw [lG] at step
   exact SI e1 (λ_=>step) (λh=>by rw [e2] at h;cases h)
theorem aAP {P:Program} {s:Nat} {b:Bool} {r:List di} {K:(Nat->Value)->ae->Prop}:∀{l:List kJ} {j:Nat} {aR:List (Nat×ae)} {aM:fx} {f:Nat->Value} {h:ae},(∀o∈l,leaves (some (s,b)) o.dst=true)->
  wL (f s)=false->rf (f s) b=false->
  vY l j aR aM (λaR aM f h=>mc P r (j+l.length) aR aM K f h) f h->mc P (uv (some (s,b)) l++r) j aR aM K f h:=by
 intro l
 induction l with
 | nil=>intro j aR aM f h _ _ _ hk;exact hk
 | cons o l ih=>
  intro j aR aM f h hl e1 e2 hk
  simp only [vY] at hk
  simp only [uv,map_cons,cons_append,mc]
  refine SI e1 (λh=>by rw [e2] at h;cases h) (λ_=>?_)
  refine af8 (λa c v h' bD=>?_) hk
  have hd:o.dst≠some s:=by have:=hl o (by simp);simpa [leaves] using this
  refine ih (λo' dX=>hl o' (by simp [dX])) (by rw [Yk hd];exact e1) (by rw [Yk hd];exact e2) ?_
  rw [length_cons] at bD
  rw [show j+1+l.length=j+(l.length+1) by omega]
  exact bD
theorem Sy {P:Program} {K K':List (Nat×ae)->fx->(Nat->Value)->ae->Prop} (hm:∀a b f h,K a b f h->K' a b f h):∀{l:List kJ} {j:Nat} {aR:List (Nat×ae)} {aM:fx} {f:Nat->Value} {h:ae},
  pz P l j aR aM K f h->pz P l j aR aM K' f h
 | [],_,_,_,_,_,hk=>hm _ _ _ _ hk
 | _::_,_,_,_,_,_,hk=>af9 (λ_ _ _ _ bD=>Sy hm bD) hk
theorem agJ {K K':List (Nat×ae)->fx->(Nat->Value)->ae->Prop} (hm:∀a b f h,K a b f h->K' a b f h):∀{l:List kJ} {j:Nat} {aR:List (Nat×ae)} {aM:fx} {f:Nat->Value} {h:ae},
  vY l j aR aM K f h->vY l j aR aM K' f h
 | [],_,_,_,_,_,hk=>hm _ _ _ _ hk
 | _::_,_,_,_,_,_,hk=>af8 (λ_ _ _ _ bD=>agJ hm bD) hk
theorem agH {P:Program} {K:(Nat->Value)->ae->Prop}:∀{gs:List (Option (Nat×Bool)×List kJ)} {j:Nat} {aR:List (Nat×ae)} {aM:fx} {f:Nat->Value} {h:ae},(∀g l,(g,l)∈gs->∀o∈l,leaves g o.dst=true)->
  oF P gs j aR aM K f h->mc P (uw gs) j aR aM K f h:=by
 intro gs
 induction gs with
 | nil=>intro j aR aM f h _ hk;exact hk
 | cons a gs ih=>
  obtain ⟨g,l⟩:=a
  intro j aR aM f h hl hk
  have nT:∀g' l',(g',l')∈gs->∀o∈l',leaves g' o.dst=true:=λg' l' hm=>hl g' l' (by simp [hm])
  simp only [uw]
  cases g with
  | none=>
   simp only [oF] at hk
   exact agI (hl none l (by simp)) (λs b hs=>by cases hs) (Sy (λa b f h bD=>ih nT bD) hk)
  | some sb=>
   obtain ⟨s,b⟩:=sb
   simp only [oF] at hk
   obtain ⟨e1,e2⟩:=J7 hk
   rcases e2 with ⟨e2,e3⟩ | ⟨e2,e3⟩
   ·exact agI (hl _ l (by simp)) (λs' b' hs=>by cases hs;exact ⟨e1,e2⟩) (Sy (λa b f h bD=>ih nT bD) e3)
   ·exact aAP (hl _ l (by simp)) e1 e2 (agJ (λa b f h bD=>ih nT bD) e3)
end
section
def fh (V:Nat->Value) (S:List Nat):List di->Nat->(Nat->Value)->(Nat->Value)
 | [],_,f=>f
 | d::ds,i,f=>fh V S ds (i+1) (if S.contains i then dS f d.op.dst (V i) else f)
theorem ya {V:Nat->Value} {S S':List Nat} {t:Nat}:∀{l:List di} {i:Nat} {f f':Nat->Value},(∀k d,l[k]?=some d->d.op.dst=some t->(i+k∈S↔i+k∈S'))->f t=f' t->fh V S l i f t=fh V S' l i f' t
 | [],i,f,f',_,hf=>hf
 | d::ds,i,f,f',h,hf=>by
  simp only [fh]
  refine ya (λk d' hk hd=>?_) ?_
  ·have:=h (k+1) d' (by simpa using hk) hd
   rw [show i+(k+1)=i+1+k by omega] at this
   exact this
  ·by_cases hd:d.op.dst=some t
   ·have:=h 0 d rfl hd
    simp only [add_zero] at this
    by_cases hi:i∈S
    ·simp [hi,this.1 hi,hd,dS,tS]
    ·have iA:i∉S':=λh=>hi (this.2 h)
     simp [hi,iA,hf]
   ·have bt:∀v g,dS g d.op.dst v t=g t:=by
     intro v g
     cases yf:d.op.dst with
     | none=>rfl
     | some x=>
      have:t≠x:=by rintro rfl;exact hd yf
      simp [dS,tS,this]
    split <;> split <;> simp [bt,hf]
theorem So {V:Nat->Value} {S:List Nat} {t:Nat}:∀{l:List di} {i:Nat} {f:Nat->Value} {k:Nat} {d:di},l[k]?=some d->d.op.dst=some t->i+k∈S->
  (∀k' d',l[k']?=some d'->d'.op.dst=some t->k<k'->i+k'∉S)->fh V S l i f t=V (i+k)
 | [],i,f,k,d,hk,_,_,_=>by simp at hk
 | d0::ds,i,f,k,d,hk,hd,hS,Ks=>by
  simp only [fh]
  cases k with
  | zero=>
   simp at hk;subst hk
   simp only [add_zero] at hS⊢
   have:fh V S ds (i+1) (if S.contains i=true then dS f d0.op.dst (V i) else f) t=fh V [] ds (i+1) (if S.contains i=true then dS f d0.op.dst (V i) else f) t:=by
    refine ya (λk' d' bD rR=>?_) rfl
    have:=Ks (k'+1) d' (by simpa using bD) rR (by omega)
    rw [show i+(k'+1)=i+1+k' by omega] at this
    simp [this]
   rw [this]
   have E6:∀(l:List di) (i:Nat) (f:Nat->Value),fh V [] l i f=f:=by
    intro l
    induction l with
    | nil=>intro i f;rfl
    | cons a l ih=>intro i f;simp [fh,ih]
   rw [E6]
   simp [hS,hd,dS,tS]
  | succ k=>
   have:=So (V:=V) (S:=S) (l:=ds) (i:=i+1) (f:=if S.contains i=true then dS f d0.op.dst (V i) else f) (k:=k) (d:=d) (by simpa using hk) hd (by rw [show i+1+k=i+(k+1) by omega];exact hS) (by
    intro k' d' bD rR aF
    have:=Ks (k'+1) d' (by simpa using bD) rR (by omega)
    rw [show i+(k'+1)=i+1+k' by omega] at this
    exact this)
   rw [this]
   congr 1
   omega
theorem EB {P:Program} {l:List di} {F:Nat->Nat->Value} {H:Nat->ae} {V:Nat->Value} (T:Trace P l 0 F H V):∀(r:List di) (i:Nat) (S:List Nat) (j:Nat),(∀k,r[k]?=l[i+k]?)->(∀k,k∈S↔k<j)->i<=j->j<=i+r.length->
  fh V S r i (F i)=F j
 | [],i,S,j,_,_,h1,h2=>by
  simp at h2
  obtain rfl:i=j:=by omega
  rfl
 | d::r,i,S,j,hr,hS,h1,h2=>by
  simp only [fh]
  have h0:=hr 0
  simp only [List.getElem?_cons_zero,add_zero] at h0
  have hu:=T.yL i d h0.symm
  simp only [zero_add] at hu
  by_cases eW:i<j
  ·have:i∈S:=(hS i).2 eW
   simp only [List.contains_eq_mem,this,decide_true,if_true]
   rw [<-hu]
   exact EB T r (i+1) S j (λk=>by have:=hr (k+1);rw [show i+(k+1)=i+1+k by omega] at this;simpa using this) hS (by omega) (by simp at h2;omega)
  ·obtain rfl:i=j:=by omega
   have hni:i∉S:=λh=>by have:=(hS i).1 h;omega
   simp only [List.contains_eq_mem,hni,decide_false,Bool.false_eq_true,if_false]
   have KI:∀(r:List di) (k:Nat) (f:Nat->Value),i<=k->fh V S r k f=f:=by
    intro r
    induction r with
    | nil=>intro k f _;rfl
    | cons a r ih=>
     intro k f hk
     have:k∉S:=λh=>by have:=(hS k).1 h;omega
     simp [fh,this,ih (k+1) f (by omega)]
   exact KI r (i+1) _ (by omega)
def DG (es:List (List Nat)) (S:List Nat):Prop:=∀j e,j∈S->e∈(es.getD j [])->e∈S
theorem aoY {qt:List Nat}:∀{es:List Nat} {i:Nat},(w5 qt es).testBit i=true->∃e∈es,i=e∨(qt.getD e 0).testBit i=true
 | [],i,h=>by simp [w5] at h
 | e::es,i,h=>by
  simp only [w5,Nat.testBit_or,or_eq_true] at h
  rcases h with (h | h) | h
  ·refine ⟨e,by simp,.inl ?_⟩
   rw [Nat.testBit_two_pow] at h
   exact (by simpa using h:e=i).symm
  ·exact ⟨e,by simp,.inr h⟩
  ·obtain ⟨e',h1,h2⟩:=aoY h
   exact ⟨e',by simp [h1],h2⟩
theorem ayP:∀{es:List (List Nat)} {acc:List Nat} {all:List (List Nat)},(∀k,es[k]?=all[acc.length+k]?)->(∀j i,j<acc.length->(acc.getD j 0).testBit i=true->∃e∈all.getD j [],i=e∨((kh es acc).getD e 0).testBit i=true)->
  (∀j i,((kh es acc).getD j 0).testBit i=true->∃e∈all.getD j [],i=e∨((kh es acc).getD e 0).testBit i=true):=by
 intro es
 induction es with
 | nil=>
  intro acc all _ EK j i h
  simp only [kh] at h⊢EK
  by_cases hj:j<acc.length
  ·exact EK j i hj h
  ·have:acc.getD j 0=0:=by simp [getD,le_of_not_lt hj]
   rw [this] at h
   simp at h
 | cons e0 es ih=>
  intro acc all gy EK j i h
  simp only [kh] at h⊢EK
  have eX:∀(es:List (List Nat)) (acc:List Nat) (k:Nat),k<acc.length->(kh es acc).getD k 0=acc.getD k 0:=by
   intro es
   induction es with
   | nil=>intro acc k _;rfl
   | cons a es ih'=>
    intro acc k hk
    simp only [kh]
    rw [ih' _ k (by simp;omega)]
    simp [getD,getElem?_append_left hk]
  refine ih (acc:=acc++[w5 acc e0]) (all:=all) ?_ ?_ j i h
  ·intro k
   have:=gy (k+1)
   simp only [List.getElem?_cons_succ] at this
   rw [this]
   congr 1
   simp
   omega
  ·intro j' i' Au hb
   by_cases aF:j'<acc.length
   ·rw [show (acc++[w5 acc e0]).getD j' 0=acc.getD j' 0 by simp [getD,getElem?_append_left aF]] at hb
    exact EK j' i' aF hb
   ·obtain rfl:j'=acc.length:=by simp at Au;omega
    rw [show (acc++[w5 acc e0]).getD acc.length 0=w5 acc e0 by simp [getD]] at hb
    obtain ⟨e,h1,h2⟩:=aoY hb
    have h0:=gy 0
    simp only [List.getElem?_cons_zero,add_zero] at h0
    refine ⟨e,by simp [getD,<-h0,h1],?_⟩
    rcases h2 with h2 | h2
    ·exact .inl h2
    ·right
     have aBb:e<acc.length:=by
      apply byContradiction
      intro cU
      have:acc.getD e 0=0:=by simp [getD,le_of_not_lt cU]
      rw [this] at h2
      simp at h2
     rw [eX _ _ _ (by simp;omega)]
     simpa [getD,getElem?_append_left aBb] using h2
theorem Mj {es:List (List Nat)} {S:List Nat} (hS:DG es S) (Ai:∀j e,e∈es.getD j []->e<j):∀(j i:Nat),(∀e∈es.getD j [],e∈S)->((kh es []).getD j 0).testBit i=true->i∈S:=by
 intro j
 induction j using Nat.strongRecOn with
 | _ j ih=>
  intro i he hb
  obtain ⟨e,h1,h2⟩:=ayP (es:=es) (acc:=[]) (all:=es) (λk=>by simp) (λj i hj=>by simp at hj) j i hb
  rcases h2 with rfl | h2
  ·exact he _ h1
  ·exact ih e (Ai j e h1) i (λe' gn=>hS e e' (he e h1) gn) h2
end
section
section
variable {P : Program} {N : Nat}
theorem NL {l:List di} {F:Nat->Nat->Value} {H:Nat->ae} {V:Nat->Value} (T:Trace P l 0 F H V) {i:Nat}:∀(d:Nat),i+d<=l.length->(∀e oe,l[e]?=some oe->oe.op.op.dR=true->¬(i<=e/\e<i+d))->H (i+d)=H i
 | 0,_,_=>rfl
 | d+1,hl,hE=>by
  have ih:=NL T d (by omega) (λe oe h1 h2 h3=>hE e oe h1 h2 ⟨h3.1,by omega⟩)
  have aF:i+d<l.length:=by omega
  have cA:l[i+d]?=some l[i+d]:=getElem?_eq_getElem aF
  have Ky:l[i+d].op.op.dR=false:=by
   cases hq:l[i+d].op.op.dR with
   | false=>rfl
   | true=>exact absurd ⟨by omega,by omega⟩ (hE (i+d) _ cA hq)
  rw [show i+(d+1)=i+d+1 by omega]
  rw [<-ih]
  have hy:=T.yes (i+d) _ cA
  have hn:=T.no (i+d) _ cA
  simp only [zero_add] at hy hn
  cases hw:jv l[i+d].op.guard (F (i+d)) with
  | false=>exact (hn hw).2
  | true=>
   have hs:=hy hw
   generalize l[i+d].op.op=io at hs Ky
   cases io with
   | p po=>
    simp only [dE,gv] at hs
    split at hs
    ·exact hs.2.symm
    ·exact hs.elim
   | l lo=>
    simp only [dE,gv] at hs
    split at hs
    ·exact hs.2.symm
    ·exact hs.elim
   | e eo=>cases Ky
   | call g args=>cases Ky
   | lV x args=>cases Ky
theorem rF {l:List di} {F:Nat->Nat->Value} {H:Nat->ae} {V:Nat->Value} (T:Trace P l 0 F H V) {i k:Nat} (p6:i<=k) (hk:k<=l.length) (hE:∀e oe,l[e]?=some oe->oe.op.op.dR=true->¬(i<=e/\e<k)):H k=H i:=by
 have:=NL T (i:=i) (k-i) (by omega) (λe oe h1 h2 h3=>hE e oe h1 h2 ⟨h3.1,by omega⟩)
 rw [show i+(k-i)=k by omega] at this
 exact this
def OD (l:List di) (S:List Nat) (m:Nat):Prop:=∀e oe,l[e]?=some oe->oe.op.op.dR=true->(e∈S↔e<m)
theorem Gn {l:List di} (h:Mb l=true) {i j:Nat} {oi oj:di} (hi:l[i]?=some oi) (hj:l[j]?=some oj):C4 oj j oi i=true:=by
 unfold Mb at h
 rw [all_eq_true] at h
 have h1:=h (oj,j) (List.mem_zipIdx_iff_getElem?.2 hj)
 simp only at h1
 rw [all_eq_true] at h1
 exact h1 (oi,i) (List.mem_zipIdx_iff_getElem?.2 hi)
theorem aoP {oi oj:di} {i j t:Nat} (h:C4 oj j oi i=true) (bt:i≠j) (hd:oi.op.dst=some t) (ht:vB oj t=true):(if i<j then oj.pre.testBit i else oi.pre.testBit j)=true:=by
 unfold C4 at h
 rw [hd] at h
 simp only [and_eq_true,or_eq_true,beq_iff_eq,ht,Bool.not_true,Bool.false_eq_true,false_or] at h
 rcases h.1 with h | h
 ·exact absurd h bt
 ·exact h
theorem WX {oi oj:di} {i j:Nat} (h:C4 oj j oi i=true) (aF:i<j) (hi:oi.op.op.dR=true) (hj:oj.op.op.dR=true):oj.pre.testBit i=true:=by
 unfold C4 at h
 simp only [and_eq_true,aF,decide_true,hi,hj,Bool.and_self,Bool.not_true,Bool.false_or] at h
 exact h.2
theorem azl {ops:Array Oper} {l:List di} {F:Nat->Nat->Value} {H:Nat->ae} {V:Nat->Value} (T:Trace P l 0 F H V) (hlen:l.length=ops.size)
  (aA8:∀(k:Nat) (o:Oper) (d:di),ops[k]?=some o->l[k]?=some d->zR P N ops o=some d.op)
  (iO:∀k d,l[k]?=some d->d.pre=(kh (ops.toList.map fY) []).getD k 0)
  (Ai:∀j e,e∈(ops.toList.map fY).getD j []->e<j) (yp:Mb l=true) {S r:List Nat} (hv:zB ops S r):
  DG (ops.toList.map fY) S->(∀i∈S,i<ops.size)->∀m,m<=l.length->OD l S m->∀S' B ρ a w,eQ P N B ρ (fh V S l 0 (F 0)) (H m) a w->∀Q:Exit->Act->World->Prop,
   (∀av a' w',eQ P N B av (F l.length) (H l.length) a' w'->Tr ρ (H m) w av (H l.length) w'->Q .normal a' w')->wpOpsIn (FR S') 0 P ops Q r a w:=by
 induction hv with
 | nil gy=>
  rename_i S
  intro gJ aF m hm bc S' B ρ a w R Q hq
  have hF:fh V S l 0 (F 0)=F l.length:=by
   have h1:=EB T l 0 (List.range l.length) l.length (λk=>by simp) (λk=>by simp) (by omega) (by omega)
   rw [<-h1]
   funext t
   refine ya (λk d hk _=>?_) rfl
   have gp:=(bz hk).1
   simp only [zero_add,mem_range]
   exact ⟨λ_=>gp,λ_=>gy k (by omega)⟩
  have hH:H l.length=H m:=by
   refine rF T hm (le_refl _) ?_
   rintro e oe he hE ⟨h1,h2⟩
   have:=(bc e oe he hE).1 (gy e (by omega))
   omega
  rw [hF] at R
  simp only [wpOpsIn]
  refine hq ρ a w (by rw [hH];exact R) ?_
  rw [hH]
  exact Tr.refl R.heap
 | cons wq wm Ar hvr ih=>
  rename_i S j o r
  intro gJ aF m hm bc S' B ρ a w R Q hq
  have oJ:j<ops.size:=(Array.getElem?_eq_some_iff.1 wq).1
  have cA:l[j]?=some (l[j]'(by omega)):=getElem?_eq_getElem _
  generalize hd0:l[j]'(by omega)=d at cA
  have hc:=aA8 j o d wq cA
  obtain ⟨q1,q2,q3,q4,q5⟩:=Ek hc
  have iM:(ops.toList.map fY).getD j []=fY o:=by
   simp [getD,wq]
  have uE:DG (ops.toList.map fY) (j::S):=by
   intro k e hk he
   rcases mem_cons.1 hk with rfl | hk
   ·rw [iM] at he
    exact mem_cons_of_mem _ (Ar e he)
   ·exact mem_cons_of_mem _ (gJ k e hk he)
  have before:∀i,d.pre.testBit i=true->i∈S:=by
   intro i hb
   rw [iO j d cA] at hb
   exact Mj gJ Ai j i (by rw [iM];exact Ar) hb
  have behind:∀k dk,l[k]?=some dk->dk.pre.testBit j=true->k∉S:=by
   intro k dk hk hb E0
   rw [iO k dk hk] at hb
   exact wm (Mj gJ Ai k j (λe he=>gJ k e E0 he) hb)
  have slot:∀t,vB d t=true->fh V S l 0 (F 0) t=F j t:=by
   intro t ht
   have h1:=EB T l 0 (List.range j) j (λk=>by simp) (λk=>by simp) (by omega) (by omega)
   rw [<-h1]
   refine ya (λk dk hk Ap=>?_) rfl
   simp only [zero_add,mem_range]
   by_cases gV:k=j
   ·subst gV
    exact ⟨λh=>absurd h wm,λh=>absurd h (Nat.lt_irrefl _)⟩
   ·have hp:=aoP (Gn yp hk cA) gV Ap ht
    by_cases nE:k<j
    ·rw [if_pos nE] at hp
     exact ⟨λ_=>nE,λ_=>before k hp⟩
    ·rw [if_neg nE] at hp
     exact ⟨λh=>absurd h (behind k dk hk hp),λh=>absurd h nE⟩
  have AG:∀t∈d.op.reads,fh V S l 0 (F 0) t=F j t:=λt ht=>slot t (by simp [vB,ht])
  have Cw:∀t∈tmpsOf d.op.op.iQ,fh V S l 0 (F 0) t=F j t:=λt ht=>AG t (by simp [jy.reads,ht])
  have Fo:jv d.op.guard (fh V S l 0 (F 0))=jv d.op.guard (F j):=by
   cases hg:d.op.guard with
   | none=>rfl
   | some sb=>
    obtain ⟨s,b⟩:=sb
    simp only [jv]
    rw [AG s (by simp [jy.reads,hg])]
  have Ta:sV d.op.guard (fh V S l 0 (F 0)):=by
   have:=T.SE j d cA
   simp only [zero_add] at this
   cases hg:d.op.guard with
   | none=>trivial
   | some sb=>
    obtain ⟨s,b⟩:=sb
    rw [hg] at this
    simp only [sV] at this⊢
    rw [AG s (by simp [jy.reads,hg])]
    exact this
  have Fp:=GL q4 R Ta
  have lH:fh V (j::S) l 0 (F 0)=dS (fh V S l 0 (F 0)) o.dst (V j):=by
   rw [<-q5]
   funext t
   by_cases mT:d.op.dst=some t
   ·have h1:=So (V:=V) (S:=j::S) (l:=l) (i:=0) (f:=F 0) (k:=j) (d:=d) cA mT (by simp) (by
     intro k' d' bD rR nE
     have hp:=aoP (Gn yp bD cA) (by omega) rR (by simp [vB,mT])
     rw [if_neg (by omega)] at hp
     have:=behind k' d' bD hp
     simp only [zero_add,mem_cons,not_or]
     exact ⟨by omega,this⟩)
    rw [h1]
    simp [mT,dS,tS]
   ·have h1:fh V (j::S) l 0 (F 0) t=fh V S l 0 (F 0) t:=by
     refine ya (λk dk hk Ap=>?_) rfl
     have gV:k≠j:=by
      rintro rfl
      rw [cA] at hk
      cases hk
      exact mT Ap
     simp [gV]
    rw [h1]
    cases yf:d.op.dst with
    | none=>rfl
    | some x=>
     have:t≠x:=by rintro rfl;exact mT yf
     simp [dS,tS,this]
  have mV:∀i∈j::S,i<ops.size:=by
   intro i hi
   rcases mem_cons.1 hi with rfl | hi
   ·exact oJ
   ·exact aF i hi
  -- gB GB,where gB aEx writes memory
  have GC:d.op.op.dR=true->H m=H j/\OD l (j::S) (j+1):=by
   intro hE
   have qS:m<=j:=by
    apply byContradiction
    intro h
    exact wm ((bc j d cA hE).2 (by omega))
   refine ⟨?_,?_⟩
   ·refine (rF T qS (by omega) ?_).symm
    rintro e oe he mS ⟨h1,h2⟩
    have hb:=WX (Gn yp he cA) h2 mS hE
    have:=(bc e oe he mS).1 (before e hb)
    omega
   ·intro e oe he mS
    rcases Nat.lt_trichotomy e j with nE | rfl | tg
    ·have hb:=WX (Gn yp he cA) nE mS hE
     exact ⟨λ_=>by omega,λ_=>mem_cons_of_mem _ (before e hb)⟩
    ·exact ⟨λ_=>by omega,λ_=>by simp⟩
    ·have hb:=WX (Gn yp cA he) tg hE mS
     have:=behind e oe he hb
     constructor
     ·intro h
      rcases mem_cons.1 h with h | h
      ·omega
      ·exact absurd h this
     ·intro h;omega
  have Dh:d.op.op.dR=false->OD l (j::S) m:=by
   intro hE e oe he mS
   have bt:e≠j:=by
    rintro rfl
    rw [cA] at he
    cases he
    rw [hE] at mS
    cases mS
   rw [<-bc e oe he mS]
   simp [bt]
  have Fs:=T.yes j d cA
  have dV:=T.no j d cA
  simp only [zero_add] at Fs dV
  simp only [wpOpsIn,wq]
  by_cases hw:jv d.op.guard (F j)=true
  ·rw [if_pos (by rw [Fp,Fo,hw])]
   have hs:=Fs hw
   by_cases hE:d.op.op.dR=true
   ·obtain ⟨e1,e2⟩:=GC hE
    rw [<-MS Cw,<-e1] at hs
    obtain ⟨v,h',st,hv,hh⟩:=Bf (N:=N) q3 q1 hs
    subst hv
    subst hh
    refine st S' B ρ a w R _ _ ?_
    intro av v' w' wH HH TT
    have R':=R.vh q2 TT wH HH
    rw [<-lH] at R'
    exact ih uE mV (j+1) (by omega) e2 S' B av _ w' R' Q λnj sN kG pq uj=>hq nj sN kG pq (TT.trans uj)
   ·have gI:d.op.op.dR=false:=by simpa using hE
    -- sD is looked at has one value at this GB and in gB aLO order
    have eD:dE P d.op.op (fh V S l 0 (F 0)) (H m) λv h'=>v=V j/\h'=H m:=by
     rw [MS Cw]
     cases dB:d.op.op with
     | p po=>
      rw [dB] at hs
      simp only [dE,gv] at hs⊢
      split at hs
      ·exact ⟨hs.1,trivial⟩
      ·exact hs.elim
     | l lo=>
      have cf:gr lo (ev (F j)) (H m)=some (V j):=by
       have CE:gr lo (ev (F j)) (H j)=some (V j):=by
        rw [dB] at hs
        simp only [dE,gv] at hs
        split at hs
        ·rename_i v hv
         rw [hv,hs.1]
        ·exact hs.elim
       rcases Nat.le_total m j with qS | qS
       ·by_cases hex:∃e oe,l[e]?=some oe/\oe.op.op.dR=true/\m<=e/\e<j
        ·-- gB least of aKg
         have key:∀n,(∃e oe,l[e]?=some oe/\oe.op.op.dR=true/\m<=e/\e<j/\e<n)->∃e oe,l[e]?=some oe/\oe.op.op.dR=true/\m<=e/\e<j/\∀e' jS,l[e']?=some jS->jS.op.op.dR=true->¬(m<=e'/\e'<e):=by
          intro n
          induction n with
          | zero=>rintro ⟨e,oe,_,_,_,_,h⟩;omega
          | succ n tH=>
           rintro ⟨e,oe,h1,h2,h3,h4,h5⟩
           by_cases fa:∃e oe,l[e]?=some oe/\oe.op.op.dR=true/\m<=e/\e<j/\e<n
           ·exact tH fa
           ·refine ⟨e,oe,h1,h2,h3,h4,?_⟩
            rintro e' jS k1 k2 ⟨k3,k4⟩
            exact fa ⟨e',jS,k1,k2,k3,by omega,by omega⟩
         obtain ⟨e0,Be,g1,g2,g3,g4⟩:=hex
         obtain ⟨e,oe,h1,h2,h3,h4,h5⟩:=key j ⟨e0,Be,g1,g2,g3,g4,g4⟩
         have Ad:H e=H m:=rF T h3 (by omega) (λe' jS k1 k2 k3=>h5 e' jS k1 k2 k3)
         rw [<-Ad]
         have wk:d.pre.testBit e=false:=by
          cases hb:d.pre.testBit e with
          | false=>rfl
          | true=>
           have:=(bc e oe h1 h2).1 (before e hb)
           omega
         have:=T.W1 e oe j d lo h1 h2 cA dB (by simpa using hw) h4 (by simpa using wk)
         simpa using this
        ·have Ae:H j=H m:=rF T qS (by omega) (λe oe h1 h2 h3=>hex ⟨e,oe,h1,h2,h3⟩)
         rw [<-Ae]
         exact CE
       ·by_cases hex:∃e oe,l[e]?=some oe/\oe.op.op.dR=true/\j<=e/\e<m
        ·have key:∀n,(∃e oe,l[e]?=some oe/\oe.op.op.dR=true/\j<=e/\e<m/\m<=e+n)->∃e oe,l[e]?=some oe/\oe.op.op.dR=true/\j<=e/\e<m/\∀e' jS,l[e']?=some jS->jS.op.op.dR=true->¬(e+1<=e'/\e'<m):=by
          intro n
          induction n with
          | zero=>rintro ⟨e,oe,_,_,_,_,h⟩;omega
          | succ n tH=>
           rintro ⟨e,oe,h1,h2,h3,h4,h5⟩
           by_cases fa:∃e oe,l[e]?=some oe/\oe.op.op.dR=true/\j<=e/\e<m/\m<=e+n
           ·exact tH fa
           ·refine ⟨e,oe,h1,h2,h3,h4,?_⟩
            rintro e' jS k1 k2 ⟨k3,k4⟩
            exact fa ⟨e',jS,k1,k2,by omega,by omega,by omega⟩
         obtain ⟨e0,Be,g1,g2,g3,g4⟩:=hex
         obtain ⟨e,oe,h1,h2,h3,h4,h5⟩:=key m ⟨e0,Be,g1,g2,g3,g4,by omega⟩
         have bt:e≠j:=by
          rintro rfl
          rw [cA] at h1
          cases h1
          rw [gI] at h2
          cases h2
         have Ad:H m=H (e+1):=rF T (by omega) hm (λe' jS k1 k2 k3=>h5 e' jS k1 k2 k3)
         rw [Ad]
         have wk:oe.pre.testBit j=false:=by
          cases hb:oe.pre.testBit j with
          | false=>rfl
          | true=>exact absurd ((bc e oe h1 h2).2 h4) (behind e oe h1 hb)
         have:=T.Sr j d lo e oe cA dB (by simpa using hw) h1 h2 (by omega) (by simpa using wk)
         simpa using this
        ·have Ae:H m=H j:=rF T qS hm (λe oe h1 h2 h3=>hex ⟨e,oe,h1,h2,h3⟩)
         rw [Ae]
         exact CE
      simp [dE,gv,cf]
     | e eo=>rw [dB] at gI;cases gI
     | call g args=>rw [dB] at gI;cases gI
     | lV x args=>rw [dB] at gI;cases gI
    obtain ⟨v,h',st,hv,hh⟩:=Bf (N:=N) q3 q1 eD
    subst hv
    subst hh
    refine st S' B ρ a w R _ _ ?_
    intro av v' w' wH HH TT
    have R':=R.vh q2 TT wH HH
    rw [<-lH] at R'
    exact ih uE mV m hm (Dh gI) S' B av _ w' R' Q λnj sN kG pq uj=>hq nj sN kG pq (TT.trans uj)
  ·have mY:jv d.op.guard (F j)=false:=by simpa using hw
   rw [if_neg (by rw [Fp,Fo,mY];simp)]
   obtain ⟨n1,n2⟩:=dV mY
   have R':=R.vh q2 (Tr.refl R.heap) (aC.undef _) R.heap
   rw [n1] at lH
   rw [<-lH] at R'
   by_cases hE:d.op.op.dR=true
   ·obtain ⟨e1,e2⟩:=GC hE
    have e3:H (j+1)=H m:=by rw [n2,e1]
    exact ⟨λ_ _=>trivial,ih uE mV (j+1) (by omega) e2 S' B ρ _ w (by rw [e3];exact R') Q λnj sN kG pq uj=>hq nj sN kG pq (by rw [e3] at uj;exact uj)⟩
   ·exact ⟨λ_ _=>trivial,ih uE mV m hm (Dh (by simpa using hE)) S' B ρ _ w R' Q hq⟩
theorem YO:∀{ios:List jy} {ps:List Nat},ios.length<=ps.length->(pb ios ps).length=ios.length/\∀(k:Nat) (d:di),(pb ios ps)[k]?=some d->ios[k]?=some d.op/\d.pre=ps.getD k 0
 | [],ps,_=>⟨by simp [pb],λk d h=>by simp [pb] at h⟩
 | o::ios,[],h=>by simp at h
 | o::ios,p::ps,h=>by
  obtain ⟨h1,h2⟩:=YO (ios:=ios) (ps:=ps) (by simpa using h)
  refine ⟨by simp [pb,h1],?_⟩
  intro k d hk
  cases k with
  | zero=>simp [pb] at hk;subst hk;simp
  | succ k=>
   simp only [pb,List.getElem?_cons_succ] at hk
   obtain ⟨a,b⟩:=h2 k d hk
   exact ⟨by simpa using a,by simpa [getD] using b⟩
theorem Jq:∀(es:List (List Nat)) (acc:List Nat),(kh es acc).length=acc.length+es.length
 | [],acc=>by simp [kh]
 | e::es,acc=>by simp only [kh];rw [Jq];simp;omega
theorem RD {ops:Array Oper}:∀{os:List Oper} {l:List jy},mA P N ops os=some l->l.length=os.length/\∀(k:Nat) (o:Oper) (x:jy),os[k]?=some o->l[k]?=some x->zR P N ops o=some x
 | [],l,h=>by
  simp [mA] at h
  subst h
  exact ⟨rfl,λk o x hk=>by simp at hk⟩
 | o::os,l,h=>by
  obtain ⟨x,xs,h1,h2,rfl⟩:=vL h
  obtain ⟨e1,e2⟩:=RD h2
  refine ⟨by simp [e1],?_⟩
  intro k o' x' hk hx
  cases k with
  | zero=>simp at hk hx;subst hk;subst hx;exact h1
  | succ k=>exact e2 k o' x' (by simpa using hk) (by simpa using hx)
theorem aCB {out:Bool} {id:Nat} {ops:Array Oper} {l:List di} {K:(Nat->Value)->ae->Prop} {f:Nat->Value} {h:ae} (hc:RA P N ops=some l) (hi:mc P l 0 [] [] K f h):
  ∃f' h',iy P N out (.region id ops true) f h .normal f' h'/\K f' h':=by
 unfold RA at hc
 split at hc
 ·rename_i ios Tg
  split at hc
  ·rename_i ta
   simp at hc
   simp only [and_eq_true] at ta
   obtain ⟨⟨E3,sY⟩,yp⟩:=ta
   rw [hc] at yp
   obtain ⟨g1,g2⟩:=RD Tg
   have Tm:ios.length<=(kh (ops.toList.map fY) []).length:=by rw [Jq];simp [g1]
   obtain ⟨z1,z2⟩:=YO Tm
   rw [hc] at z1 z2
   have hlen:l.length=ops.size:=by rw [z1,g1];simp
   obtain ⟨F,H,V,f1,f2,f3,T,_,_⟩:=Uk hi
   simp only [zero_add] at f3
   refine ⟨F l.length,H l.length,?_,f3⟩
   ·intro S hS B ρ a w R
    refine wpIn_region_draw ?_
    intro t
    have TM:Region.schedule (P.follows .mixedOrders) ops t=Region.linearise .any ops t:=by
     unfold Region.schedule
     rw [E3]
     simp
    rw [TM]
    have cf:=ajg sY t
    have Ai:∀j e,e∈(ops.toList.map fY).getD j []->e<j:=by
     intro j e he
     by_cases hj:j<ops.size
     ·have hg:ops.toList[j]?=some ops[j]:=by simp [hj]
      have:(ops.toList.map fY).getD j []=fY ops[j]:=by simp [getD,hj]
      rw [this] at he
      have:=HZ sY j ops[j] hg e he
      omega
     ·have:(ops.toList.map fY).getD j []=[]:=by simp [getD,le_of_not_lt hj]
      rw [this] at he
      simp at he
    have E6:∀(l:List di) (i:Nat) (f:Nat->Value),fh V [] l i f=f:=by
     intro l
     induction l with
     | nil=>intro i f;rfl
     | cons a l ih=>intro i f;simp [fh,ih]
    have R1:eQ P N B ρ (fh V [] l 0 (F 0)) (H 0) a { w with drawn:=w.drawn+1 }:=by
     rw [E6,f1,f2]
     exact R.mono (Tr.drew R.heap _) (R.heap.drew _)
    refine azl T hlen ?_ ?_ Ai yp cf (λj e hj=>by simp at hj) (λi hi=>by simp at hi) 0 (by omega) (λe oe _ _=>by simp) S B ρ a _ R1 _ ?_
    ·intro k o d hk hd
     exact g2 k o d.op (by simpa using hk) (z2 k d hd).1
    ·intro k d hd
     exact (z2 k d hd).2
    ·intro av a' w' R' T'
     refine ⟨rfl,av,R',?_⟩
     have T0:=Tr.drew R.heap (w.drawn+1)
     rw [f2] at T'
     exact T0.trans T'
  ·cases hc
 ·cases hc
end
end
section
section
variable {P : Program} {w : World} {ρ : aO} {h : ae}
theorem a9.alloc (H:a9 P ρ h w) (b:Obj):a9 P ρ h (w.alloc b)/\Tr ρ h w ρ h (w.alloc b):=by
 have nb:=kB.alloc w b
 refine ⟨⟨?_,H.inj,H.bm⟩,?_⟩
 ·intro i r hi
  obtain ⟨o,ho,hr⟩:=H.obj i r hi
  refine ⟨o,ho,?_⟩
  by_cases hd:o=.dead
  ·subst hd;trivial
  ·exact hr.mono (.refl _) (nb.old (CV H hi ⟨o,ho,hd⟩))
 ·exact {
   ext:=.refl _
   len:=le_refl _
   jY:=λi r hi=>H.lt hi
   kinds:=λi _ hm=>hm
   fresh:=λi s h1 h2=>by rw [h1] at h2;cases h2
   iR:=by rw [nb.size];omega
   gZ:=λk hk _=>nb.old hk
   os:=nb.os
   tape:=nb.tape
   output:=nb.output }
theorem Bj {l k:Nat} {o:Obj} (hk:k≠l):(w.putObj l o).heap[k]?=w.heap[k]?:=World.putObj_heap_other hk
theorem a9.put (H:a9 P ρ h w) {l:Nat} (dV:∀j s,ρ j=some s->s.bC=l->¬dZ h j) (o:Obj):a9 P ρ h (w.putObj l o):=by
 refine ⟨?_,H.inj,H.bm⟩
 intro i r hi
 obtain ⟨o',ho,hr⟩:=H.obj i r hi
 refine ⟨o',ho,?_⟩
 by_cases hd:o'=.dead
 ·subst hd;trivial
 ·refine hr.mono (.refl _) (Bj ?_)
  intro e
  exact dV i r hi e ⟨o',ho,hd⟩
theorem a9.aiP (H:a9 P ρ h w) {l:Nat} {rec:Loop} (hl:w.heap[l]?=some (.loop rec)) {j:Nat} {s:RI} (hj:ρ j=some s) (hs:s.bC=l) (hv:dZ h j):∃c ls vs,h[j]?=some (.loop c ls vs):=by
 obtain ⟨o,ho,bt⟩:=hv
 obtain ⟨o',dX,hr⟩:=H.obj j s hj
 rw [ho] at dX
 cases dX
 subst hs
 cases o with
 | ro e xs=>obtain ⟨_,c,_,fr,h2,_⟩:=hr;rw [hl] at h2;cases h2
 | arr e xs=>obtain ⟨_,_,c,h2,_⟩:=hr;rw [hl] at h2;cases h2
 | smap es=>obtain ⟨aQ,clock,h1,_⟩:=hr;rw [hl] at h1;cases h1
 | me kd es=>obtain ⟨aQ,clock,h1,_⟩:=hr;rw [hl] at h1;cases h1
 | cw g c es=>obtain ⟨_,aQ,h1,_⟩:=hr;rw [hl] at h1;cases h1
 | iter m s n l=>obtain ⟨_,rm,_,h1⟩:=hr;rw [hl] at h1;cases h1
 | loop c ls vs=>exact ⟨c,ls,vs,ho⟩
 | dead=>exact absurd rfl bt
theorem Tr.late {av:aO} {h':ae} {w':World} (T:Tr ρ h w av h' w') {l:Nat} (hl:w.heap.size<=l) (o:Obj) (i:Nat):Tr ρ h w av (h'.set i .dead) (w'.putObj l o) where
 ext:=T.ext
 len:=by simpa using T.len
 jY:=T.jY
 kinds:=by
  intro j hj hm
  refine T.kinds j hj ?_
  by_cases e:j=i
  ·subst e
   have aF:j<h'.length:=Nat.lt_of_lt_of_le hj T.len
   unfold cF at hm
   rw [getElem?_set_self aF] at hm
   rcases hm with ⟨_,_,h1⟩ | ⟨_,h1⟩ | ⟨_,_,_,h1⟩ | ⟨_,_,h1⟩ | ⟨_,_,_,h1⟩ | ⟨_,_,_,_,h1⟩ <;> cases h1
  ·unfold cF at hm⊢
   rw [getElem?_set_ne (Ne.symm e)] at hm
   exact hm
 fresh:=T.fresh
 iR:=by rw [World.putObj_size];exact T.iR
 gZ:=λk hk dV=>by rw [Bj (by omega)];exact T.gZ k hk dV
 os:=T.os
 tape:=T.tape
 output:=T.output
theorem a9.kill (H:a9 P ρ h w) (i:Nat):a9 P ρ (h.set i .dead) w:=by
 have hm:∀j,cF (h.set i .dead) j->cF h j:=by
  intro j hj
  by_cases e:j=i
  ·subst e
   unfold cF at hj
   by_cases aF:j<h.length
   ·rw [getElem?_set_self aF] at hj
    rcases hj with ⟨_,_,h1⟩ | ⟨_,h1⟩ | ⟨_,_,_,h1⟩ | ⟨_,_,h1⟩ | ⟨_,_,_,h1⟩ | ⟨_,_,_,_,h1⟩ <;> cases h1
   ·rw [getElem?_eq_none (by simpa using le_of_not_lt aF)] at hj
    rcases hj with ⟨_,_,h1⟩ | ⟨_,h1⟩ | ⟨_,_,_,h1⟩ | ⟨_,_,h1⟩ | ⟨_,_,_,h1⟩ | ⟨_,_,_,_,h1⟩ <;> cases h1
  ·unfold cF at hj⊢
   rw [getElem?_set_ne (Ne.symm e)] at hj
   exact hj
 have hl:∀j,dZ (h.set i .dead) j->dZ h j:=by
  intro j hj
  by_cases e:j=i
  ·subst e
   obtain ⟨o,ho,bt⟩:=hj
   by_cases aF:j<h.length
   ·rw [getElem?_set_self aF] at ho
    cases ho
    exact absurd rfl bt
   ·rw [getElem?_eq_none (by simpa using le_of_not_lt aF)] at ho
    cases ho
  ·unfold dZ at hj⊢
   rw [getElem?_set_ne (Ne.symm e)] at hj
   exact hj
 refine ⟨?_,λa b r s ha hb nG h1 h2=>H.inj a b r s ha hb nG (hm a h1) (hl b h2),H.bm⟩
 intro j r hj
 by_cases e:j=i
 ·subst e
  exact ⟨.dead,by rw [getElem?_set_self (H.lt hj)],trivial⟩
 ·obtain ⟨o,ho,hr⟩:=H.obj j r hj
  exact ⟨o,by rw [getElem?_set_ne (Ne.symm e)];exact ho,hr⟩
theorem aJv {g:FuncId} {first cap:Array Value} (nB:qI P g=true) (a:Act) (gx:Operand) (hy:a.eval gx=.func (.func g) first cap) (l:Nat) (w:World):
  ∃d,(resolve a.eval (rangeCall gx l) 0).run P w=.ok d w/\(invoke d.target d.args).run P w=.ok (.enter g (first++#[.func (.yield l) #[] #[]]++cap)) w:=by
 refine ⟨_,by simp [resolve,hy,Deferred.ofValue];rfl,?_⟩
 simp [invoke,Rn nB,Act.eval]
theorem ap3 {N:Nat} {g:Operand} {ps:Array Tmp} {kL body:Code} {ls:List Nat} {K:ae->Prop} {f:Nat->Value} (aI:j9 g=true)
  (hi:vk P (ev f g) ls (ls.map f) ⟨N,ps,kL,body⟩ h K):∃h',iy P N true (.rangeFunc g ps kL body) f h .normal f h'/\K h':=by
 unfold vk at hi
 split at hi
 ·rename_i F first cap hx
  obtain ⟨nB,v,h',jB,⟨c',ls',km,cA⟩,hk⟩:=hi
  refine ⟨_,?_,hk⟩
  intro S hS B ρ a w R
  obtain rfl:=hS rfl
  refine wpIn_rangeFunc λfn _=>?_
  obtain ⟨H0,T0⟩:=R.heap.alloc (.deferred (some []))
  have kC:(w.alloc (.deferred (some []))).heap.size=w.heap.size+1:=World.size_alloc _ _
  have nb:=kB.alloc (w.alloc (.deferred (some []))) (.loop { state:=.ready,pending:=none,fn,tmps:=a.tmps,params:=ps,assign:=kL,body,defers:=w.heap.size })
  obtain ⟨H1,T1⟩:=H0.new (h₀:=h) (o:=.loop ⟨N,ps,kL,body⟩ ls (ls.map f)) (r:=⟨w.heap.size+1,0,0,P.cellsOf 0,0⟩) nb kC.symm rfl rfl (λ_=>.inl rfl)
   ⟨_,by rw [<-kC];exact nb.new,rfl,rfl,rfl,rfl,rfl,R.size,λt=>by
    rcases FU f ls t with e | e
    ·rw [e];exact (R.tmp t).mono (aO.uY R.heap.none)
    ·rw [e];exact .any _⟩
  have hr:=R.ev aI
  rw [hx] at hr
  generalize hy:a.eval g=y at hr
  cases hr with
  | func _ s1 s2 r1 r2=>
   rename_i Si Js
   obtain ⟨d,aB3,aBp⟩:=aJv (w:=((w.alloc (.deferred (some []))).alloc (.loop { state:=.ready,pending:=none,fn,tmps:=a.tmps,params:=ps,assign:=kL,body,defers:=w.heap.size }))) nB a g hy (w.heap.size+1)
   refine ⟨_,_,_,d,_,F,_,_,run_enterLoop_outer fn a.tmps ps kL body,aB3,λ_ _=>trivial,aBp,λh=>(by cases h),?_⟩
   have hle:=aO.uY (r:=⟨w.heap.size+1,0,0,P.cellsOf 0,0⟩) R.heap.none
   have sX:bR (ρ.add h.length ⟨w.heap.size+1,0,0,P.cellsOf 0,0⟩) (first.toList++[.func (.yield h.length) #[] #[]]++cap.toList) (Si++#[Value.func (.yield (w.heap.size+1)) #[] #[]]++Js).toList:=by
    have q1:=(bR.xk s1 r1).mono hle
    have q3:=(bR.xk s2 r2).mono hle
    have q2:bR (ρ.add h.length ⟨w.heap.size+1,0,0,P.cellsOf 0,0⟩) [.func (.yield h.length) #[] #[]] [.func (.yield (w.heap.size+1)) #[] #[]]:=
     .cons (aC.yield (i:=h.length) (r:=⟨w.heap.size+1,0,0,P.cellsOf 0,0⟩) (by simp [aO.add])) .nil
    simpa using (q1.append q2).append q3
   refine (afK (jB _ _ _ sX H1) none _).mono ?_
   rintro e w3 ⟨v',av,rfl,hv,H3,T3⟩
   have Ud:av h.length=some ⟨w.heap.size+1,0,0,P.cellsOf 0,0⟩:=T3.ext _ _ (by simp [aO.add])
   obtain ⟨o,ho,rW⟩:=H3.obj _ _ Ud
   rw [cA] at ho
   cases ho
   obtain ⟨rec,g1,g2,g3,g4,g5,g6,g7,g8⟩:=rW
   have gW:=run_endLoop (P:=P) g1 (by rw [g2];decide)
   refine ⟨_,_,gW,?_⟩
   split
   rotate_left
   ·rename_i c hc;rw [g3] at hc;cases hc
   have TT:=(T0.trans (T1.trans T3))
   have Hk:=H3.kill h.length
   have aBQ:a9 P av (h'.set h.length .dead) (w3.putObj (w.heap.size+1) (.loop { rec with state:=.exhausted })):=by
    refine Hk.put ?_ _
    intro j s hj hs wh
    obtain ⟨c,_,_,hc⟩:=Hk.aiP g1 hj hs wh
    have bt:j≠h.length:=by
     rintro rfl
     rw [getElem?_set_self (H3.lt Ud)] at hc
     cases hc
    rw [getElem?_set_ne (Ne.symm bt)] at hc
    exact bt (H3.inj _ _ _ _ hj Ud hs (.inr (.inr (.inl ⟨_,_,_,hc⟩))) ⟨_,cA,by simp⟩)
   have TL:=TT.late (l:=w.heap.size+1) (by omega) (.loop { rec with state:=.exhausted }) h.length
   refine ⟨rfl,av,⟨R.size,?_,λt=>(R.tmp t).mono TL.ext,aBQ⟩,TL⟩
   have hD:(w3.putObj (w.heap.size+1) (.loop { rec with state:=.exhausted })).heap[w.heap.size]?=some (.deferred (some [])):=by
    rw [Bj (by omega)]
    have e1:(w.alloc (.deferred (some []))).heap[w.heap.size]?=some (.deferred (some [])):=World.alloc_heap_new _ _
    have e2:=nb.old (k:=w.heap.size) (by omega)
    rw [T3.gZ _ (by rw [nb.size];omega) ?_,e2,e1]
    intro j s hj hs hm
    exact H1.Vd (e2.trans e1) hj hs hm.live
   refine ⟨⟨w.heap.size,rfl,marks.base R.defers,hD,?_⟩,marks.tr R.heap TL R.defers⟩
   intro d' rR he
   obtain ⟨D,e1,e2⟩:=marks.lt R.defers d' rR
   rw [e1] at he
   have:=ajA he
   omega
 ·exact hi.elim
end
end
section
section
variable {P : Program} {N : Nat}
theorem auW {a:np} {g g':Operand->Value} (h:∀x∈a.iQ,g x=g' x):mw a g=mw a g':=by
 cases a with
 | alloc e zs=>rfl
 | nZ e n zs ps=>
  simp only [mw]
  rw [Md (ps:=ps) h]
 | make e b zs l c=>
  simp only [np.iQ,mem_cons,List.not_mem_nil,or_false,forall_eq_or_imp,forall_eq] at h
  simp only [mw,h.1,h.2]
 | pL g=>rfl
theorem auX {a:np} {g:Operand->Value} {V:Nat->Value} {o:aq} (h:mw a g=some (V,o)) {ρ av:aO} {i j:Nat} {v':Value} (e:av j=ρ i) (hv:aC ρ (V i) v'):aC av (V j) v':=by
 have ptr:V=(λi=>.pointer (some ⟨i,0,none⟩))->aC av (V j) v':=by
  rintro rfl
  cases hv with
  | ptr hr=>exact .ptr (by rw [e];exact hr)
 have slc:∀t n,V=(λi=>sl t i 0 n)->aC av (V j) v':=by
  rintro t n rfl
  cases hv with
  | slice hr a b c d=>exact .slice (by rw [e];exact hr) a b c d
 have mp:V=(λi=>.map (some i))->aC av (V j) v':=by
  rintro rfl
  cases hv with
  | map hr=>exact .map (by rw [e];exact hr)
 cases a with
 | pL g=>simp [mw] at h;exact mp h.1.symm
 | alloc t zs=>simp [mw] at h;exact ptr h.1.symm
 | nZ t n zs ps=>simp only [mw,map_eq_some_iff,Prod.mk.injEq] at h;obtain ⟨_,_,h1,_⟩:=h;exact slc t n h1.symm
 | make t b zs l c=>
  simp only [mw] at h
  split at h
  ·split at h
   ·simp at h;exact slc t _ h.1.symm
   ·cases h
  ·cases h
theorem R6 {i:Nat} {o:aq} {u:Value} (h:oD i o=some u):(∃e xs,o=.arr e xs/\(∀x∈xs,sw i x=true)/\u=.agg (.int .i64 e::xs).toArray)∨∃g,o=.cw g 0 []/\u=.tuple #[EC g]:=by
 unfold oD at h
 split at h
 ·rename_i e xs
  split at h
  ·rename_i hx
   rw [all_eq_true] at hx
   injection h with h
   exact .inl ⟨e,xs,rfl,hx,h.symm⟩
  ·cases h
 ·rename_i g c es
  split at h
  ·rename_i hc
   obtain ⟨rfl,hc⟩:=hc
   rw [List.isEmpty_iff] at hc
   subst hc
   injection h with h
   exact .inr ⟨g,rfl,h.symm⟩
  ·cases h
 ·cases h
theorem aAO {g g':gD} (h:EC g=EC g'):g=g':=by
 cases g <;> cases g' <;> simp [EC] at h <;> first | rfl | (subst h;rfl) | (obtain ⟨rfl,h⟩:=h;rw [Int.ofNat.inj h]) | (have:=Int.ofNat.inj h.2;rw [h.1,this])
theorem aAg {i:Nat} {o o':aq} {u:Value} (h:oD i o=some u) (h':oD i o'=some u):o=o':=by
 rcases R6 h with ⟨e,xs,rfl,_,h1⟩ | ⟨g,rfl,h1⟩ <;> rcases R6 h' with ⟨e',fV,rfl,_,h2⟩ | ⟨g',rfl,h2⟩
 ·rw [h1] at h2
  simp at h2
  obtain ⟨h3,h4⟩:=h2
  have SJ:e=e':=Int.ofNat.inj h3
  rw [SJ,h4]
 ·rw [h1] at h2;cases h2
 ·rw [h1] at h2;cases h2
 ·rw [h1] at h2
  simp at h2
  rw [aAO h2]
theorem sw.rel {ρ av:aO} {i:Nat} {v v':Value} (h:sw i v=true) (hle:∀k,k<i->∀r,ρ k=some r->av k=some r) (hv:aC ρ v v'):aC av v v':=by
 unfold sw at h
 rw [or_eq_true] at h
 rcases h with h | h
 ·exact FQ.rel h hv
 ·split at h
  ·have hk:=of_decide_eq_true h
   cases hv with
   | slice hr a b c d=>exact .slice (hle _ hk _ hr) a b c d
  ·cases h
theorem mf.sw {ρ av:aO} {w:World} {r:RI} {o:aq} {i:Nat} (hx:(oD i o).isSome=true) (hle:∀k,k<i->∀r,ρ k=some r->av k=some r) (h:mf ρ w r o):mf av w r o:=by
 obtain ⟨u,hu⟩:=Option.isSome_iff_exists.1 hx
 rcases R6 hu with ⟨e,xs,rfl,hx,_⟩ | ⟨g,rfl,_⟩
 ·obtain ⟨h1,h0,c,h2,h3,h4⟩:=h
  refine ⟨h1,h0,c,h2,h3,λj x hj=>?_⟩
  obtain ⟨c1,y,hy,hr⟩:=h4 j x hj
  exact ⟨c1,y,hy,Go.Sim.sw.rel (hx x (mem_of_getElem? hj)) hle hr⟩
 ·obtain ⟨h0,aQ,h1,h2,h3⟩:=h
  exact ⟨h0,aQ,h1,h2,λj b k v hj=>by simp at hj⟩
theorem a9.take {ρ av:aO} {h:ae} {w w':World} {o:aq} {p:Nat} (R:a9 P ρ h w) (hp:h[p]?=some o) (hx:(oD p o).isSome=true) (hn:ρ p=Option.none)
  (H':a9 P av (h++[o]) w') (T:Tr ρ h w av (h++[o]) w'):a9 P (λk=>if k=p then av h.length else ρ k) h w':=by
 have nF:=(bz hp).1
 have new:(h++[o])[h.length]?=some o:=by simp
 have old:∀k,k<h.length->(h++[o])[k]?=h[k]?:=λk hk=>getElem?_append_left hk
 have hle:ρ.le λk=>if k=p then av h.length else ρ k:=by
  intro k r hr
  have:k≠p:=by rintro rfl;rw [hn] at hr;cases hr
  simp [this,hr]
 have mt:∀k,k<h.length->(cF h k↔cF (h++[o]) k):=λk hk=>by unfold cF;rw [old k hk]
 have FG:∀k,k<h.length->(dZ h k↔dZ (h++[o]) k):=λk hk=>by unfold dZ;rw [old k hk]
 have back:∀k,k<p->∀r,av k=some r->(λk=>if k=p then av h.length else ρ k) k=some r:=by
  intro k hk r hr
  have bt:k≠p:=by omega
  simp only [if_neg bt]
  cases hq:ρ k with
  | none=>
   have:=(T.fresh k r hr hq).1
   omega
  | some r'=>
   have:=T.ext k r' hq
   rw [hr] at this
   exact this.symm
 have U5:cF h p↔cF (h++[o]) h.length:=by unfold cF;rw [new,hp]
 have UN:dZ h p↔dZ (h++[o]) h.length:=by unfold dZ;rw [new,hp]
 refine ⟨?_,?_,?_⟩
 ·intro k r hr
  by_cases hk:k=p
  ·subst hk
   simp only [if_true] at hr
   obtain ⟨o',dX,nV⟩:=H'.obj _ r hr
   rw [new] at dX
   cases dX
   exact ⟨_,hp,mf.sw hx back nV⟩
  ·simp only [if_neg hk] at hr
   obtain ⟨o',dX,nV⟩:=R.obj k r hr
   obtain ⟨o2,E7,TE⟩:=H'.obj k r (T.ext k r hr)
   rw [old k (R.lt hr),dX] at E7
   cases E7
   exact ⟨o',dX,(nV.down T.ext TE).mono hle rfl⟩
 ·intro a b r s ha hb nG hm hl
  by_cases ea:a=p <;> by_cases eb:b=p
  ·omega
  ·subst ea
   simp only [if_true] at ha
   simp only [if_neg eb] at hb
   have Kc:=R.lt hb
   have:=H'.inj h.length b r s ha (T.ext b s hb) nG (U5.1 hm) ((FG b Kc).1 hl)
   omega
  ·subst eb
   simp only [if_true] at hb
   simp only [if_neg ea] at ha
   have jP:=R.lt ha
   have:=H'.inj a h.length r s (T.ext a r ha) hb nG ((mt a jP).1 hm) (UN.1 hl)
   omega
  ·simp only [if_neg ea] at ha
   simp only [if_neg eb] at hb
   exact H'.inj a b r s (T.ext a r ha) (T.ext b s hb) nG ((mt a (R.lt ha)).1 hm) ((FG b (R.lt hb)).1 hl)
 ·intro k r hr
  by_cases hk:k=p
  ·subst hk;simp only [if_true] at hr;exact H'.bm _ r hr
  ·simp only [if_neg hk] at hr;exact R.bm k r hr
theorem Tr.take {BB ρ av:aO} {hb h:ae} {wb w w':World} {o:aq} {p:Nat} (TB:Tr BB hb wb ρ h w) (hpb:hb.length<=p) (hn:ρ p=Option.none) (T:Tr ρ h w av (h++[o]) w'):
  Tr BB hb wb (λk=>if k=p then av h.length else ρ k) h w':=by
 have TT:=TB.trans T
 exact {
  ext:=by
   intro k r hr
   have:=TB.ext k r hr
   have hk:k≠p:=by rintro rfl;rw [hn] at this;cases this
   simp [hk,this]
  len:=TB.len
  jY:=TB.jY
  kinds:=TB.kinds
  fresh:=by
   intro k r hr hZ
   by_cases hk:k=p
   ·subst hk
    simp only [if_true] at hr
    have hbn:BB h.length=none:=by
     cases hq:BB h.length with
     | none=>rfl
     | some q=>have:=TB.jY _ _ hq;have:=TB.len;omega
    exact ⟨hpb,(TT.fresh _ r hr hbn).2⟩
   ·simp only [if_neg hk] at hr
    exact TB.fresh k r hr hZ
  iR:=TT.iR
  gZ:=TT.gZ
  os:=TT.os
  tape:=TT.tape
  output:=TT.output }
theorem Cb {l:List di} {F:Nat->Nat->Value} {H:Nat->ae} {V:Nat->Value} (T:Trace P l 0 F H V) {q:Nat} {d:di} {a:np} (hq:l[q]?=some d) (ho:d.op.op=.e (.fl a)) (hg:d.op.guard=none):
  ∃Vf o,mw a (ev (F q))=some (Vf,o)/\V q=Vf (H q).length/\H (q+1)=H q++[o]/\(oD (H q).length o).isSome=true/\dh (H (q+1)) (V q)=oD (H q).length o/\
   ∀e' oe,l[e']?=some oe->oe.op.op.dR=true->q<e'->oe.pre.testBit q=false->dh (H (e'+1)) (V q)=oD (H q).length o:=by
 have hw:jv d.op.guard (F (0+q))=true:=by rw [hg];rfl
 have hy:=T.yes q d hq hw
 obtain ⟨u,u1,u2⟩:=T.flo q d a hq ho hw
 simp only [zero_add] at hy u1 u2
 rw [ho] at hy
 simp only [dE,oc,aiF] at hy
 cases jP:mw a (ev (F q)) with
 | none=>rw [jP] at hy;exact hy.elim
 | some p=>
  obtain ⟨Vf,o⟩:=p
  rw [jP] at hy
  simp only [map_some] at hy
  obtain ⟨h1,h2⟩:=hy
  have jC:=Qr jP (H q).length
  rw [h1] at jC
  have ES:dh (H (q+1)) (V q)=oD (H q).length o:=by
   unfold dh
   rw [jC,<-h2]
   simp
  rw [ES] at u1
  exact ⟨Vf,o,rfl,h1.symm,h2.symm,by rw [u1];rfl,ES,λe' oe he hE aF hp=>(u2 e' oe he hE aF hp).trans u1.symm⟩
def OE (l:List di) (S:List Nat) (m:Nat):Prop:=∀e oe,l[e]?=some oe->oe.op.op.dR=true->jm oe=false->(e∈S↔e<m)
theorem AV {o:di}:jm o=true↔∃a,o.op.op=.e (.fl a):=by
 unfold jm
 constructor
 ·intro h
  split at h
  ·rename_i a ha;exact ⟨a,ha⟩
  ·cases h
 ·rintro ⟨a,ha⟩;rw [ha]
structure Laid (P:Program) (N:Nat) (ops:Array Oper) (l:List di) (perm:Nat->Nat) (mF:Nat):Prop where
 len:l.length=ops.size
 lt:∀q,q<ops.size->perm q<ops.size
 inj:∀q k,q<ops.size->k<ops.size->perm q=perm k->q=k
 sur:∀j,j<ops.size->∃q,q<ops.size/\perm q=j
 comp:∀q o d,ops[perm q]?=some o->l[q]?=some d->∃x,zR P N ops o=some x/\x.dst=d.op.dst/\x.guard=d.op.guard/\tmpsOf x.op.iQ=tmpsOf d.op.op.iQ/\((jm d=false/\x.op=d.op.op)∨∃a,x.op=.e a.M1/\d.op.op=.e (.fl a)/\d.op.guard=none)
 pre:∀q d,l[q]?=some d->∀k,k<ops.size->d.pre.testBit k=((kh (ops.toList.map fY) []).getD (perm q) 0).testBit (perm k)
 back:∀j e,e∈(ops.toList.map fY).getD j []->e<j
 Gm:∀i j oi oj,l[i]?=some oi->l[j]?=some oj->C6 oj j oi i=true
 head:mF<=l.length
 low:∀q d,l[q]?=some d->q<mF->d.op.op.dR=true->jm d=true
 high:∀q d,l[q]?=some d->mF<=q->jm d=false
theorem aoN {oi oj:di} {i j t:Nat} (h:C6 oj j oi i=true) (bt:i≠j) (hd:oi.op.dst=some t) (ht:vB oj t=true):(if i<j then oj.pre.testBit i else oi.pre.testBit j)=true:=by
 unfold C6 at h
 rw [hd] at h
 simp only [and_eq_true,or_eq_true,beq_iff_eq,ht,Bool.not_true,Bool.false_eq_true,false_or] at h
 rcases h.1 with h | h
 ·exact absurd h bt
 ·exact h
theorem WV {oi oj:di} {i j:Nat} (h:C6 oj j oi i=true) (aF:i<j) (hi:oi.op.op.dR=true) (hj:oj.op.op.dR=true) (fi:jm oi=false) (fj:jm oj=false):oj.pre.testBit i=true:=by
 unfold C6 at h
 simp only [and_eq_true,aF,decide_true,hi,hj,fi,fj,Bool.and_self,Bool.not_true,Bool.not_false,Bool.false_or] at h
 exact h.2
theorem yj {ops:Array Oper} {l:List di} {perm:Nat->Nat} {mF:Nat} (L:Laid P N ops l perm mF) (nR:∀(q:Nat) (d:di),l[q]?=some d->jm d=true->d.op.guard=none) {F:Nat->Nat->Value} {H:Nat->ae} {V:Nat->Value} (T:Trace P l 0 F H V) {k:Nat}:∀(d:Nat),k+d<=mF->∃os,H (k+d)=H k++os
 | 0,_=>⟨[],by simp⟩
 | d+1,hd=>by
  obtain ⟨os,jj⟩:=yj L nR T (k:=k) d (by omega)
  have aF:k+d<l.length:=by have:=L.head;omega
  have cA:l[k+d]?=some l[k+d]:=getElem?_eq_getElem aF
  rw [show k+(d+1)=k+d+1 by omega]
  cases hE:l[k+d].op.op.dR with
  | true=>
   have hf:=L.low (k+d) _ cA (by omega) hE
   obtain ⟨a,ha⟩:=AV.1 hf
   obtain ⟨_,oo,_,_,h3,_⟩:=Cb T cA ha (nR _ _ cA hf)
   exact ⟨os++[oo],by rw [h3,jj];simp⟩
  | false=>
   have:=NL T (i:=k+d) 1 (by omega) (λe oe h1 h2 h3=>by
    have:e=k+d:=by omega
    subst this
    rw [cA] at h1
    cases h1
    rw [hE] at h2
    cases h2)
   exact ⟨os,by rw [this,jj]⟩
theorem azm {ops:Array Oper} {l:List di} {perm:Nat->Nat} {mF:Nat} (L:Laid P N ops l perm mF) (nR:∀(q:Nat) (d:di),l[q]?=some d->jm d=true->d.op.guard=none) {F:Nat->Nat->Value} {H:Nat->ae} {V:Nat->Value} (T:Trace P l 0 F H V)
  {BB:aO} {wb:World} {S r:List Nat} (hv:zB ops S r):
  DG (ops.toList.map fY) S->(∀i∈S,i<ops.size)->∀Sp,(∀q,q∈Sp↔q<ops.size/\perm q∈S)->∀m,mF<=m->m<=l.length->OE l Sp m->∀S' B ρ a w,eQ P N B ρ (fh V Sp l 0 (F 0)) (H m) a w->(H mF).length<=(H m).length->
   (∀(q:Nat) (d:di),l[q]?=some d->jm d=true->q∉Sp->ρ (H q).length=none/\dh (H m) (V q)=dh (H (q+1)) (V q))->Tr BB (H 0) wb ρ (H m) w->∀Q:Exit->Act->World->Prop,
   (∀av a' w',eQ P N B av (F l.length) (H l.length) a' w'->Tr BB (H 0) wb av (H l.length) w'->Q .normal a' w')->wpOpsIn (FR S') 0 P ops Q r a w:=by
 induction hv with
 | nil gy=>
  rename_i S
  intro gJ aF Sp Cj m E2 hm bc S' B ρ a w R _ _ TB Q hq
  have fK:∀q,q<l.length->q∈Sp:=λq hq=>(Cj q).2 ⟨by rw [<-L.len];exact hq,gy _ (L.lt q (by rw [<-L.len];exact hq))⟩
  have hF:fh V Sp l 0 (F 0)=F l.length:=by
   have h1:=EB T l 0 (List.range l.length) l.length (λk=>by simp) (λk=>by simp) (by omega) (by omega)
   rw [<-h1]
   funext t
   refine ya (λk d hk _=>?_) rfl
   have gp:=(bz hk).1
   simp only [zero_add,mem_range]
   exact ⟨λ_=>gp,λ_=>fK k gp⟩
  have hH:H l.length=H m:=by
   refine rF T hm (le_refl _) ?_
   rintro e oe he hE ⟨h1,h2⟩
   have:=(bc e oe he hE (L.high e oe he (by omega))).1 (fK e h2)
   omega
  rw [hF] at R
  simp only [wpOpsIn]
  exact hq ρ a w (by rw [hH];exact R) (by rw [hH];exact TB)
 | cons wq wm Ar hvr ih=>
  rename_i S j0 o r
  intro gJ aF Sp Cj m E2 hm bc S' B ρ a w R hlen qP TB Q hq
  have ahC:j0<ops.size:=(Array.getElem?_eq_some_iff.1 wq).1
  obtain ⟨j,oJ,nS⟩:=L.sur j0 ahC
  have pB:j<l.length:=by rw [L.len];exact oJ
  have cA:l[j]?=some (l[j]'pB):=getElem?_eq_getElem _
  generalize hd0:l[j]'pB=d at cA
  obtain ⟨x,hc,x1,x2,x3,x4⟩:=L.comp j o d (by rw [nS];exact wq) cA
  obtain ⟨q1,q2,q3,q4,q5⟩:=Ek hc
  rw [x2] at q4
  rw [x1] at q5
  have Ts:j∉Sp:=λh=>wm (by rw [<-nS];exact ((Cj j).1 h).2)
  have iM:(ops.toList.map fY).getD j0 []=fY o:=by
   simp [getD,wq]
  have uE:DG (ops.toList.map fY) (j0::S):=by
   intro k e hk he
   rcases mem_cons.1 hk with rfl | hk
   ·rw [iM] at he
    exact mem_cons_of_mem _ (Ar e he)
   ·exact mem_cons_of_mem _ (gJ k e hk he)
  have EJ:∀q,q∈j::Sp↔q<ops.size/\perm q∈j0::S:=by
   intro q
   rw [mem_cons,mem_cons,Cj]
   constructor
   ·rintro (rfl | ⟨h1,h2⟩)
    ·exact ⟨oJ,.inl nS⟩
    ·exact ⟨h1,.inr h2⟩
   ·rintro ⟨h1,h2 | h2⟩
    ·exact .inl (L.inj q j h1 oJ (h2.trans nS.symm))
    ·exact .inr ⟨h1,h2⟩
  have before:∀i,i<ops.size->d.pre.testBit i=true->i∈Sp:=by
   intro i hi hb
   rw [L.pre j d cA i hi,nS] at hb
   exact (Cj i).2 ⟨hi,Mj gJ L.back j0 (perm i) (by rw [iM];exact Ar) hb⟩
  have behind:∀k dk,l[k]?=some dk->dk.pre.testBit j=true->k∉Sp:=by
   intro k dk hk hb E0
   have hkn:k<ops.size:=by rw [<-L.len];exact (bz hk).1
   rw [L.pre k dk hk j oJ,nS] at hb
   have aBx:=((Cj k).1 E0).2
   exact wm (Mj gJ L.back (perm k) j0 (λe he=>gJ (perm k) e aBx he) hb)
  have kE:∀{k dk},l[k]?=some dk->k<ops.size:=λhk=>by rw [<-L.len];exact (bz hk).1
  have slot:∀t,vB d t=true->fh V Sp l 0 (F 0) t=F j t:=by
   intro t ht
   have h1:=EB T l 0 (List.range j) j (λk=>by simp) (λk=>by simp) (by omega) (by omega)
   rw [<-h1]
   refine ya (λk dk hk Ap=>?_) rfl
   simp only [zero_add,mem_range]
   by_cases gV:k=j
   ·subst gV
    exact ⟨λh=>absurd h Ts,λh=>absurd h (Nat.lt_irrefl _)⟩
   ·have hp:=aoN (L.Gm k j dk d hk cA) gV Ap ht
    by_cases nE:k<j
    ·rw [if_pos nE] at hp
     exact ⟨λ_=>nE,λ_=>before k (kE hk) hp⟩
    ·rw [if_neg nE] at hp
     exact ⟨λh=>absurd h (behind k dk hk hp),λh=>absurd h nE⟩
  have AG:∀t∈d.op.reads,fh V Sp l 0 (F 0) t=F j t:=λt ht=>slot t (by simp [vB,ht])
  have Cw:∀t∈tmpsOf d.op.op.iQ,fh V Sp l 0 (F 0) t=F j t:=λt ht=>AG t (by simp [jy.reads,ht])
  have Fo:jv d.op.guard (fh V Sp l 0 (F 0))=jv d.op.guard (F j):=by
   cases hg:d.op.guard with
   | none=>rfl
   | some sb=>
    obtain ⟨s,b⟩:=sb
    simp only [jv]
    rw [AG s (by simp [jy.reads,hg])]
  have Ta:sV d.op.guard (fh V Sp l 0 (F 0)):=by
   have:=T.SE j d cA
   simp only [zero_add] at this
   cases hg:d.op.guard with
   | none=>trivial
   | some sb=>
    obtain ⟨s,b⟩:=sb
    rw [hg] at this
    simp only [sV] at this⊢
    rw [AG s (by simp [jy.reads,hg])]
    exact this
  have Fp:=GL q4 R Ta
  have lH:fh V (j::Sp) l 0 (F 0)=dS (fh V Sp l 0 (F 0)) o.dst (V j):=by
   rw [<-q5]
   funext t
   by_cases mT:d.op.dst=some t
   ·have h1:=So (V:=V) (S:=j::Sp) (l:=l) (i:=0) (f:=F 0) (k:=j) (d:=d) cA mT (by simp) (by
     intro k' d' bD rR nE
     have hp:=aoN (L.Gm k' j d' d bD cA) (by omega) rR (by simp [vB,mT])
     rw [if_neg (by omega)] at hp
     have:=behind k' d' bD hp
     simp only [zero_add,mem_cons,not_or]
     exact ⟨by omega,this⟩)
    rw [h1]
    simp [mT,dS,tS]
   ·have h1:fh V (j::Sp) l 0 (F 0) t=fh V Sp l 0 (F 0) t:=by
     refine ya (λk dk hk Ap=>?_) rfl
     have gV:k≠j:=by
      rintro rfl
      rw [cA] at hk
      cases hk
      exact mT Ap
     simp [gV]
    rw [h1]
    cases yf:d.op.dst with
    | none=>rfl
    | some y=>
     have:t≠y:=by rintro rfl;exact mT yf
     simp [dS,tS,this]
  have mV:∀i∈j0::S,i<ops.size:=by
   intro i hi
   rcases mem_cons.1 hi with rfl | hi
   ·exact ahC
   ·exact aF i hi
  -- aK7 still to ay2 stay sO aLQ are
  have Gw:∀q dq,l[q]?=some dq->jm dq=true->q<mF:=by
   intro q dq hq hf
   apply byContradiction
   intro h
   rw [L.high q dq hq (by omega)] at hf
   cases hf
  have aIB:∀q dq,l[q]?=some dq->jm dq=true->(H q).length<(H mF).length:=by
   intro q dq hq hf
   have hqm:=Gw q dq hq hf
   obtain ⟨a,ha⟩:=AV.1 hf
   obtain ⟨_,oo,_,_,h3,_⟩:=Cb T hq ha (nR _ _ hq hf)
   obtain ⟨os,jj⟩:=yj L nR T (k:=q+1) (mF-(q+1)) (by omega)
   rw [show q+1+(mF-(q+1))=mF by omega,h3] at jj
   rw [jj]
   simp
  have ai0:∀{av:aO} {h':ae} {w':World},Tr ρ (H m) w av h' w'->∀q dq,l[q]?=some dq->jm dq=true->ρ (H q).length=none->av (H q).length=none:=by
   intro av h' w' TT q dq hq hf hn
   cases hr:av (H q).length with
   | none=>rfl
   | some s=>
    have:=(TT.fresh _ s hr hn).1
    have:=aIB q dq hq hf
    omega
  -- gB GB,where gB aEx writes memory
  have GC:d.op.op.dR=true->jm d=false->mF<=j/\H m=H j/\OE l (j::Sp) (j+1):=by
   intro hE rV
   have EW:mF<=j:=by
    apply byContradiction
    intro h
    rw [L.low j d cA (by omega) hE] at rV
    cases rV
   have qS:m<=j:=by
    apply byContradiction
    intro h
    exact Ts ((bc j d cA hE rV).2 (by omega))
   refine ⟨EW,?_,?_⟩
   ·refine (rF T qS (by omega) ?_).symm
    rintro e oe he mS ⟨h1,h2⟩
    have we:=L.high e oe he (by omega)
    have hb:=WV (L.Gm e j oe d he cA) h2 mS hE we rV
    have:=(bc e oe he mS we).1 (before e (kE he) hb)
    omega
   ·intro e oe he mS we
    rcases Nat.lt_trichotomy e j with nE | rfl | tg
    ·have hb:=WV (L.Gm e j oe d he cA) nE mS hE we rV
     exact ⟨λ_=>by omega,λ_=>mem_cons_of_mem _ (before e (kE he) hb)⟩
    ·exact ⟨λ_=>by omega,λ_=>by simp⟩
    ·have hb:=WV (L.Gm j e d oe cA he) tg hE mS rV we
     have:=behind e oe he hb
     constructor
     ·intro h
      rcases mem_cons.1 h with h | h
      ·omega
      ·exact absurd h this
     ·intro h;omega
  have Dh:(d.op.op.dR=false∨jm d=true)->OE l (j::Sp) m:=by
   intro hE e oe he mS we
   have bt:e≠j:=by
    rintro rfl
    rw [cA] at he
    cases he
    rcases hE with hE | hE
    ·rw [hE] at mS;cases mS
    ·rw [hE] at we;cases we
   rw [<-bc e oe he mS we]
   simp [bt]
  have Fs:=T.yes j d cA
  have dV:=T.no j d cA
  simp only [zero_add] at Fs dV
  simp only [wpOpsIn,wq]
  by_cases hw:jv d.op.guard (F j)=true
  ·rw [if_pos (by rw [Fp,Fo,hw])]
   have hs:=Fs hw
   rcases x4 with ⟨rV,YN⟩ | ⟨aa,YN,RL,dg⟩
   ·rw [YN] at q3
    by_cases hE:d.op.op.dR=true
    ·obtain ⟨e0,e1,e2⟩:=GC hE rV
     rw [<-MS Cw,<-e1] at hs
     obtain ⟨v,h',st,hv,hh⟩:=Bf (N:=N) q3 q1 hs
     subst hv
     subst hh
     refine st S' B ρ a w R _ _ ?_
     intro av v' w' wH HH TT
     have R':=R.vh q2 TT wH HH
     rw [<-lH] at R'
     refine ih uE mV (j::Sp) EJ (j+1) (by omega) (by omega) e2 S' B av _ w' R' (Nat.le_trans hlen TT.len) ?_ (TB.trans TT) Q hq
     intro q dq ie hf qV
     have hqS:q∉Sp:=λh=>qV (mem_cons_of_mem _ h)
     obtain ⟨i1,i2⟩:=qP q dq ie hf hqS
     refine ⟨ai0 TT q dq ie hf i1,?_⟩
     obtain ⟨a',kO⟩:=AV.1 hf
     obtain ⟨_,oo,_,_,_,_,h5,h6⟩:=Cb T ie kO (nR _ _ ie hf)
     rw [h5]
     refine h6 j d cA hE (by have:=Gw q dq ie hf;omega) ?_
     cases hb:d.pre.testBit q with
     | false=>rfl
     | true=>exact absurd (before q (kE ie) hb) hqS
    ·have gI:d.op.op.dR=false:=by simpa using hE
     -- sD is looked at has one value at this GB and in gB aLy order
     have eD:dE P d.op.op (fh V Sp l 0 (F 0)) (H m) λv h'=>v=V j/\h'=H m:=by
      rw [MS Cw]
      cases dB:d.op.op with
      | p po=>
       rw [dB] at hs
       simp only [dE,gv] at hs⊢
       split at hs
       ·exact ⟨hs.1,trivial⟩
       ·exact hs.elim
      | l lo=>
       have CE:gr lo (ev (F j)) (H j)=some (V j):=by
        rw [dB] at hs
        simp only [dE,gv] at hs
        split at hs
        ·rename_i v hv
         rw [hv,hs.1]
        ·exact hs.elim
       -- from a place at or behind gB head,to a GB before it
       have down:mF<=j->m<=j->gr lo (ev (F j)) (H m)=some (V j):=by
        intro EW qS
        by_cases hex:∃e oe,l[e]?=some oe/\oe.op.op.dR=true/\m<=e/\e<j
        ·have key:∀n,(∃e oe,l[e]?=some oe/\oe.op.op.dR=true/\m<=e/\e<j/\e<n)->∃e oe,l[e]?=some oe/\oe.op.op.dR=true/\m<=e/\e<j/\∀e' jS,l[e']?=some jS->jS.op.op.dR=true->¬(m<=e'/\e'<e):=by
          intro n
          induction n with
          | zero=>rintro ⟨e,oe,_,_,_,_,h⟩;omega
          | succ n tH=>
           rintro ⟨e,oe,h1,h2,h3,h4,h5⟩
           by_cases fa:∃e oe,l[e]?=some oe/\oe.op.op.dR=true/\m<=e/\e<j/\e<n
           ·exact tH fa
           ·refine ⟨e,oe,h1,h2,h3,h4,?_⟩
            rintro e' jS k1 k2 ⟨k3,k4⟩
            exact fa ⟨e',jS,k1,k2,k3,by omega,by omega⟩
         obtain ⟨e0,Be,g1,g2,g3,g4⟩:=hex
         obtain ⟨e,oe,h1,h2,h3,h4,h5⟩:=key j ⟨e0,Be,g1,g2,g3,g4,g4⟩
         have Ad:H e=H m:=rF T h3 (by omega) (λe' jS k1 k2 k3=>h5 e' jS k1 k2 k3)
         rw [<-Ad]
         have wk:d.pre.testBit e=false:=by
          cases hb:d.pre.testBit e with
          | false=>rfl
          | true=>
           have:=(bc e oe h1 h2 (L.high e oe h1 (by omega))).1 (before e (kE h1) hb)
           omega
         have:=T.W1 e oe j d lo h1 h2 cA dB (by simpa using hw) h4 (by simpa using wk)
         simpa using this
        ·have Ae:H j=H m:=rF T qS (by omega) (λe oe h1 h2 h3=>hex ⟨e,oe,h1,h2,h3⟩)
         rw [<-Ae]
         exact CE
       -- to a GB behind it,from where gB value is known
       have up:∀b,j<=b->mF<=b->b<=m->gr lo (ev (F j)) (H b)=some (V j)->gr lo (ev (F j)) (H m)=some (V j):=by
        intro b hjb hbF Co hbv
        by_cases hex:∃e oe,l[e]?=some oe/\oe.op.op.dR=true/\b<=e/\e<m
        ·have key:∀n,(∃e oe,l[e]?=some oe/\oe.op.op.dR=true/\b<=e/\e<m/\m<=e+n)->∃e oe,l[e]?=some oe/\oe.op.op.dR=true/\b<=e/\e<m/\∀e' jS,l[e']?=some jS->jS.op.op.dR=true->¬(e+1<=e'/\e'<m):=by
          intro n
          induction n with
          | zero=>rintro ⟨e,oe,_,_,_,_,h⟩;omega
          | succ n tH=>
           rintro ⟨e,oe,h1,h2,h3,h4,h5⟩
           by_cases fa:∃e oe,l[e]?=some oe/\oe.op.op.dR=true/\b<=e/\e<m/\m<=e+n
           ·exact tH fa
           ·refine ⟨e,oe,h1,h2,h3,h4,?_⟩
            rintro e' jS k1 k2 ⟨k3,k4⟩
            exact fa ⟨e',jS,k1,k2,by omega,by omega,by omega⟩
         obtain ⟨e0,Be,g1,g2,g3,g4⟩:=hex
         obtain ⟨e,oe,h1,h2,h3,h4,h5⟩:=key m ⟨e0,Be,g1,g2,g3,g4,by omega⟩
         have bt:e≠j:=by
          rintro rfl
          rw [cA] at h1
          cases h1
          rw [gI] at h2
          cases h2
         have Ad:H m=H (e+1):=rF T (by omega) hm (λe' jS k1 k2 k3=>h5 e' jS k1 k2 k3)
         rw [Ad]
         have wk:oe.pre.testBit j=false:=by
          cases hb:oe.pre.testBit j with
          | false=>rfl
          | true=>exact absurd ((bc e oe h1 h2 (L.high e oe h1 (by omega))).2 h4) (behind e oe h1 hb)
         have:=T.Sr j d lo e oe cA dB (by simpa using hw) h1 h2 (by omega) (by simpa using wk)
         simpa using this
        ·have Ae:H m=H b:=rF T Co hm (λe oe h1 h2 h3=>hex ⟨e,oe,h1,h2,h3⟩)
         rw [Ae]
         exact hbv
       have cf:gr lo (ev (F j)) (H m)=some (V j):=by
        by_cases EW:mF<=j
        ·rcases Nat.le_total m j with qS | qS
         ·exact down EW qS
         ·exact up j (le_refl _) EW qS CE
        ·obtain ⟨os,jj⟩:=yj L nR T (k:=j) (mF-j) (by omega)
         rw [show j+(mF-j)=mF by omega] at jj
         refine up mF (by omega) (le_refl _) E2 ?_
         rw [jj]
         exact aCI os CE
       simp [dE,gv,cf]
      | e eo=>rw [dB] at gI;cases gI
      | call g args=>rw [dB] at gI;cases gI
      | lV x args=>rw [dB] at gI;cases gI
     obtain ⟨v,h',st,hv,hh⟩:=Bf (N:=N) q3 q1 eD
     subst hv
     subst hh
     refine st S' B ρ a w R _ _ ?_
     intro av v' w' wH HH TT
     have R':=R.vh q2 TT wH HH
     rw [<-lH] at R'
     refine ih uE mV (j::Sp) EJ m E2 hm (Dh (.inl gI)) S' B av _ w' R' hlen ?_ (TB.trans TT) Q hq
     intro q dq ie hf qV
     obtain ⟨i1,i2⟩:=qP q dq ie hf (λh=>qV (mem_cons_of_mem _ h))
     exact ⟨ai0 TT q dq ie hf i1,i2⟩
   ·-- a new aEq
    have hf:jm d=true:=AV.2 ⟨aa,RL⟩
    obtain ⟨Vf,oo,h1,h2,h3,h4,h5,h6⟩:=Cb T cA RL dg
    obtain ⟨i1,i2⟩:=qP j d cA hf Ts
    have jP:mw aa (ev (fh V Sp l 0 (F 0)))=some (Vf,oo):=by
     rw [<-h1]
     refine auW (R9 λt ht=>Cw t ?_)
     rw [RL]
     exact ht
    have jC:=Qr h1 (H j).length
    rw [<-h2] at jC
    have aBL:(H m)[(H j).length]?=some oo:=by
     rw [h5] at i2
     unfold dh at i2
     rw [jC] at i2
     simp only [bind_some] at i2
     cases ho:(H m)[(H j).length]? with
     | none=>
      rw [ho] at i2
      obtain ⟨u,hu⟩:=Option.isSome_iff_exists.1 h4
      rw [hu] at i2
      cases i2
     | some o'=>
      rw [ho] at i2
      obtain ⟨u,ES⟩:=Option.isSome_iff_exists.1 h4
      simp only [bind_some] at i2
      rw [aAg (i2.trans ES) ES]
    have aCi:dE P x.op (fh V Sp l 0 (F 0)) (H m) λv h'=>v=Vf (H m).length/\h'=H m++[oo]:=by
     rw [YN]
     simp only [dE,oc,aCH,aiF,jP,map_some]
     exact ⟨trivial,trivial⟩
    obtain ⟨v,h',st,hv,hh⟩:=Bf (N:=N) q3 q1 aCi
    subst hv
    subst hh
    refine st S' B ρ a w R _ _ ?_
    intro av v' w' wH HH TT
    have HR:=R.heap.take aBL h4 i1 HH TT
    have hle:ρ.le λk=>if k=(H j).length then av (H m).length else ρ k:=by
     intro k s hk
     have:k≠(H j).length:=by rintro rfl;rw [i1] at hk;cases hk
     simp [this,hk]
    have R1:eQ P N B (λk=>if k=(H j).length then av (H m).length else ρ k) (fh V Sp l 0 (F 0)) (H m) a w':=⟨R.size,marks.tr R.heap TT R.defers,λt=>(R.tmp t).mono hle,HR⟩
    have AK:aC (λk=>if k=(H j).length then av (H m).length else ρ k) (V j) v':=by
     rw [h2]
     exact auX h1 (by simp) wH
    have R':=R1.vh q2 (Tr.refl HR) AK HR
    rw [<-lH] at R'
    have hjb:(H 0).length<=(H j).length:=by
     obtain ⟨os,jj⟩:=yj L nR T (k:=0) j (by have:=Gw j d cA hf;omega)
     rw [zero_add] at jj
     rw [jj];simp
    refine ih uE mV (j::Sp) EJ m E2 hm (Dh (.inr hf)) S' B _ _ w' R' hlen ?_ (TB.take hjb i1 TT) Q hq
    intro q dq ie S5 qV
    have hqj:q≠j:=λh=>qV (by simp [h])
    obtain ⟨k1,k2⟩:=qP q dq ie S5 (λh=>qV (mem_cons_of_mem _ h))
    refine ⟨?_,k2⟩
    have bt:(H q).length≠(H j).length:=by
     have grow:∀{a b:Nat} {da:di},l[a]?=some da->jm da=true->a<b->b<mF->(H a).length<(H b).length:=by
      intro a b da ha hfa iL hb
      obtain ⟨a',kO⟩:=AV.1 hfa
      obtain ⟨_,oo',_,_,g3,_⟩:=Cb T ha kO (nR _ _ ha hfa)
      obtain ⟨os,jj⟩:=yj L nR T (k:=a+1) (b-(a+1)) (by omega)
      rw [show a+1+(b-(a+1))=b by omega,g3] at jj
      rw [jj]
      simp
     rcases Nat.lt_or_gt_of_ne hqj with h | h
     ·have:=grow ie S5 h (Gw j d cA hf);omega
     ·have:=grow cA hf h (Gw q dq ie S5);omega
    simp [bt,k1]
  ·have mY:jv d.op.guard (F j)=false:=by simpa using hw
   rw [if_neg (by rw [Fp,Fo,mY];simp)]
   obtain ⟨n1,n2⟩:=dV mY
   have R':=R.vh q2 (Tr.refl R.heap) (aC.undef _) R.heap
   rw [n1] at lH
   rw [<-lH] at R'
   have rV:jm d=false:=by
    cases hf:jm d with
    | false=>rfl
    | true=>rw [nR j d cA hf] at mY;cases mY
   by_cases hE:d.op.op.dR=true
   ·obtain ⟨e0,e1,e2⟩:=GC hE rV
    have e3:H (j+1)=H m:=by rw [n2,e1]
    refine ⟨λ_ _=>trivial,ih uE mV (j::Sp) EJ (j+1) (by omega) (by omega) e2 S' B ρ _ w (by rw [e3];exact R') (by rw [e3];exact hlen) ?_ (by rw [e3];exact TB) Q hq⟩
    intro q dq ie hf qV
    rw [e3]
    exact qP q dq ie hf (λh=>qV (mem_cons_of_mem _ h))
   ·exact ⟨λ_ _=>trivial,ih uE mV (j::Sp) EJ m E2 hm (Dh (.inl (by simpa using hE))) S' B ρ _ w R' hlen (λq dq ie hf qV=>qP q dq ie hf (λh=>qV (mem_cons_of_mem _ h))) TB Q hq⟩
end
end
section
section
variable {P : Program} {N : Nat}
theorem ay4 {op:Op} {a:np} (h:jf P op=some (.fl a)):False:=by
 unfold jf at h
 split at h
 all_goals repeat' (split at h)
 all_goals first | (cases h;done) | (simp at h;done) | (simp only [map_eq_some_iff] at h;obtain ⟨_,_,h⟩:=h;cases h;done)
theorem ay6 {op:Op} {a:np} (h:vM P op=some (.e (.fl a))):False:=by
 rcases RE h with ⟨po,e,_⟩ | ⟨lo,e,_⟩ | ⟨eo,e,he⟩ | ⟨g,args,at_,_,_,e⟩ | ⟨x,args,at_,_,e⟩
 ·cases e
 ·cases e
 ·cases e;exact ay4 he
 ·cases e
 ·cases e
theorem af3:∀{l:List Nat},JG l=true->l.Nodup
 | [],_=>.nil
 | x::xs,h=>by
  simp only [JG,and_eq_true] at h
  rw [nodup_cons]
  exact ⟨by simpa using h.1,af3 h.2⟩
theorem ai8 {l:List di} {fl:List Nat} {p0:List Nat}:∀{perm:List Nat},(∀i∈perm,i<l.length)->∀q:Nat,
  (perm.filterMap λi=>(l[i]?).map λo=>(⟨if fl.contains i then EA o.op else o.op,Lf o.pre p0 0⟩:di))[q]?=(perm[q]?).bind λi=>(l[i]?).map λo=>⟨if fl.contains i then EA o.op else o.op,Lf o.pre p0 0⟩
 | [],_,q=>by simp
 | i::perm,h,q=>by
  have bn:i<l.length:=h i (by simp)
  have hi:l[i]?=some l[i]:=getElem?_eq_getElem bn
  rw [List.filterMap_cons,hi]
  simp only [map_some]
  cases q with
  | zero=>simp [hi]
  | succ q=>
   rw [List.getElem?_cons_succ,List.getElem?_cons_succ]
   exact ai8 (λi hi=>h i (by simp [hi])) q
theorem ay5 {ops:Array Oper} {l:List di} {perm:List Nat} (hc:Jz P N ops=some (l,perm)):P.follows .mixedOrders=true/\zI ops.toList 0=true/\Laid P N ops l (λq=>perm.getD q 0) (uI l)/\∀(q:Nat) (d:di),l[q]?=some d->jm d=true->d.op.guard=none:=by
 unfold Jz at hc
 split at hc
 ·rename_i ios Tg
  simp only at hc
  split at hc
  ·rename_i ta
   simp only [Option.some.injEq,Prod.mk.injEq] at hc
   obtain ⟨hl,hp⟩:=hc
   rw [hp] at hl ta
   rw [hl] at ta
   simp only [and_eq_true] at ta
   obtain ⟨⟨E3,sY⟩,aI⟩:=ta
   obtain ⟨g1,g2⟩:=RD Tg
   have nF:(kh (ops.toList.map fY) []).length=ops.size:=by rw [Jq];simp
   have Tm:ios.length<=(kh (ops.toList.map fY) []).length:=by rw [Jq];simp [g1]
   obtain ⟨z1,z2⟩:=YO Tm
   have hz:(pb ios (kh (ops.toList.map fY) [])).length=ops.size:=by rw [z1,g1];simp
   unfold okF at aI
   simp only [and_eq_true,beq_iff_eq] at aI
   obtain ⟨⟨⟨⟨⟨⟨⟨o1,o2⟩,o3⟩,o4⟩,o5⟩,o6⟩,o7⟩,o8⟩:=aI
   rw [nF] at o1 o2 o4 o7
   rw [all_eq_true] at o4 o5 o6 o7 o8
   have aF:∀i∈perm,i<ops.size:=λi hi=>by simpa using o4 i hi
   have cA:∀q,q<ops.size->perm.getD q 0∈perm:=by
    intro q hq
    have:q<perm.length:=by omega
    rw [List.getD_eq_getElem?_getD,getElem?_eq_getElem this]
    exact List.getElem_mem this
   have mW:=af3 o3
   have inj:∀q k,q<ops.size->k<ops.size->perm.getD q 0=perm.getD k 0->q=k:=by
    intro q k hq hk he
    have ie:q<perm.length:=by omega
    have bD:k<perm.length:=by omega
    rw [List.getD_eq_getElem?_getD,List.getD_eq_getElem?_getD,getElem?_eq_getElem ie,getElem?_eq_getElem bD] at he
    simp only [getD_some] at he
    have hp:=List.pairwise_iff_getElem.1 mW
    rcases Nat.lt_trichotomy q k with h | h | h
    ·exact absurd he (hp q k ie bD h)
    ·exact h
    ·exact absurd he.symm (hp k q bD ie h)
   have mem:∀{q d},l[q]?=some d->(d,q)∈l.zipIdx:=λh=>List.mem_zipIdx_iff_getElem?.2 h
   refine ⟨E3,sY,⟨o1,λq hq=>aF _ (cA q hq),inj,?_,?_,?_,?_,?_,Nat.sub_le _ _,?_,?_⟩,?_⟩
   ·intro j hj
    have rU:j∈perm:=by
     apply byContradiction
     intro dV
     have Fg:perm ⊆ (List.range ops.size).erase j:=by
      intro x hx
      have TZ:x≠j:=by rintro rfl;exact dV hx
      rw [List.mem_erase_of_ne TZ]
      exact mem_range.2 (aF x hx)
     have:=Lo mW Fg
     rw [List.length_erase_of_mem (mem_range.2 hj),List.length_range] at this
     omega
    obtain ⟨q,hq,e⟩:=List.mem_iff_getElem.1 rU
    exact ⟨q,by omega,by rw [List.getD_eq_getElem?_getD,getElem?_eq_getElem hq,getD_some,e]⟩
   ·intro q o d ho hd
    have qV:q<ops.size:=by rw [<-o1];exact (bz hd).1
    have ie:q<perm.length:=by omega
    have tm:=ai8 (l:=pb ios (kh (ops.toList.map fY) [])) (fl:=Sl (pb ios (kh (ops.toList.map fY) []))) (p0:=perm) (perm:=perm) (λi hi=>by rw [hz];exact aF i hi) q
    have nT:=hl
    unfold ai7 at nT
    rw [nT,hd] at tm
    rw [getElem?_eq_getElem ie] at tm
    simp only [bind_some] at tm
    have KD:perm.getD q 0=perm[q]:=by rw [List.getD_eq_getElem?_getD,getElem?_eq_getElem ie];rfl
    rw [KD] at ho
    cases T7:(pb ios (kh (ops.toList.map fY) []))[perm[q]]? with
    | none=>rw [T7] at tm;cases tm
    | some dz=>
     rw [T7] at tm
     simp only [map_some,Option.some.injEq] at tm
     have hx:=(z2 _ _ T7).1
     have nB:=g2 _ o dz.op (by simpa using ho) hx
     obtain ⟨c1,c2,c3,c4,c5⟩:=Ek nB
     have aEk:∀a,dz.op.op≠ .e (.fl a):=by
      intro a e
      rw [e] at c3
      exact ay6 c3
     refine ⟨dz.op,nB,?_⟩
     have plain:d.op=dz.op->dz.op.dst=d.op.dst/\dz.op.guard=d.op.guard/\tmpsOf dz.op.op.iQ=tmpsOf d.op.op.iQ/\((jm d=false/\dz.op.op=d.op.op)∨∃a,dz.op.op=.e a.M1/\d.op.op=.e (.fl a)/\d.op.guard=none):=by
      intro e
      refine ⟨by rw [e],by rw [e],by rw [e],.inl ⟨?_,by rw [e]⟩⟩
      cases hf:jm d with
      | false=>rfl
      | true=>
       obtain ⟨a,ha⟩:=AV.1 hf
       rw [e] at ha
       exact absurd ha (aEk a)
     by_cases qP:(Sl (pb ios (kh (ops.toList.map fY) []))).contains perm[q]=true
     ·rw [if_pos qP] at tm
      have uH:d.op=EA dz.op:=by rw [tm]
      unfold EA at uH
      split at uH
      ·rename_i eo he hg
       split at uH
       ·rename_i a ha
        refine ⟨by rw [uH],by rw [uH,hg],?_,.inr ⟨a,by rw [he,aqF ha],by rw [uH],by rw [uH]⟩⟩
        rw [uH,he,<-aqF ha]
        cases a <;> rfl
       ·exact plain uH
      ·exact plain uH
     ·rw [if_neg qP] at tm
      exact plain (by rw [tm])
   ·intro q d hd k hk
    have h1:=o7 (d,q) (mem hd)
    rw [all_eq_true] at h1
    have:=h1 k (mem_range.2 hk)
    simpa using this
   ·intro j e he
    by_cases hj:j<ops.size
    ·have hg:ops.toList[j]?=some ops[j]:=by simp [hj]
     have:(ops.toList.map fY).getD j []=fY ops[j]:=by simp [getD,hj]
     rw [this] at he
     have:=HZ sY j ops[j] hg e he
     omega
    ·have:(ops.toList.map fY).getD j []=[]:=by simp [getD,le_of_not_lt hj]
     rw [this] at he
     simp at he
   ·intro i j oi oj hi hj
    have h1:=o5 (oj,j) (mem hj)
    rw [all_eq_true] at h1
    exact h1 (oi,i) (mem hi)
   ·intro q d hd hq hE
    have h1:=o6 (d,q) (mem hd)
    simp only at h1
    rw [if_pos hq,hE] at h1
    simpa using h1
   ·intro q d hd hq
    have h1:=o6 (d,q) (mem hd)
    simp only at h1
    rw [if_neg (by omega)] at h1
    simpa using h1
   ·intro q d hd hf
    have h1:=o8 (d,q) (mem hd)
    simp only [hf,Bool.not_true,Bool.false_or,Option.isNone_iff_eq_none] at h1
    exact h1
  ·cases hc
 ·cases hc
theorem aCA {out:Bool} {id:Nat} {ops:Array Oper} {l:List di} {perm:List Nat} {K:(Nat->Value)->ae->Prop} {f:Nat->Value} {h:ae} (hc:Jz P N ops=some (l,perm)) (hi:mc P l 0 [] [] K f h):
  ∃f' h',iy P N out (.region id ops true) f h .normal f' h'/\K f' h':=by
 obtain ⟨E3,sY,L,nR⟩:=ay5 hc
 obtain ⟨F,H,V,f1,f2,f3,T,_,_⟩:=Uk hi
 simp only [zero_add] at f3
 refine ⟨F l.length,H l.length,?_,f3⟩
 intro S hS B ρ a w R
 refine wpIn_region_draw ?_
 intro t
 have TM:Region.schedule (P.follows .mixedOrders) ops t=Region.linearise .any ops t:=by
  unfold Region.schedule
  rw [E3]
  simp
 rw [TM]
 have cf:=ajg sY t
 have E6:∀(l:List di) (i:Nat) (f:Nat->Value),fh V [] l i f=f:=by
  intro l
  induction l with
  | nil=>intro i f;rfl
  | cons a l ih=>intro i f;simp [fh,ih]
 obtain ⟨os,jj⟩:=yj L nR T (k:=0) (uI l) (by omega)
 rw [zero_add] at jj
 have R0:eQ P N B ρ f h a { w with drawn:=w.drawn+1 }:=R.mono (Tr.drew R.heap _) (R.heap.drew _)
 have J9:H 0=h:=f2
 have TG:Tr ρ (H 0) w ρ (H (uI l)) { w with drawn:=w.drawn+1 }:=by
  rw [jj,J9]
  exact (Tr.drew R.heap _).trans (Tr.JY R0.heap os)
 have R1:eQ P N B ρ (fh V [] l 0 (F 0)) (H (uI l)) a { w with drawn:=w.drawn+1 }:=by
  rw [E6,f1,jj,J9]
  exact R0.mono (Tr.JY R0.heap os) (R0.heap.JY os)
 refine azm L nR T cf (λj e hj=>by simp at hj) (λi hi=>by simp at hi) [] (λq=>by simp) (uI l) (le_refl _) L.head (λe oe he _ hf=>?_) S B ρ a _ R1 (le_refl _) ?_ TG _ ?_
 ·constructor
  ·intro h;simp at h
  ·intro aF
   -- an effect at gB head is a float
   rename_i hE
   rw [L.low e oe he aF hE] at hf
   cases hf
 ·intro q d hq hf _
  obtain ⟨a',kO⟩:=AV.1 hf
  obtain ⟨_,oo,g1,g2,g3,_,g5,_⟩:=Cb T hq kO (nR q d hq hf)
  have hqm:q<uI l:=by
   apply byContradiction
   intro h'
   rw [L.high q d hq (by omega)] at hf
   cases hf
  constructor
  ·obtain ⟨os',Fa⟩:=yj L nR T (k:=0) q (by omega)
   rw [zero_add,J9] at Fa
   cases hr:ρ (H q).length with
   | none=>rfl
   | some r=>
    have:=R.heap.lt hr
    rw [Fa] at this
    simp at this
    omega
  ·obtain ⟨os',Fa⟩:=yj L nR T (k:=q+1) (uI l-(q+1)) (by omega)
   rw [show q+1+(uI l-(q+1))=uI l by omega] at Fa
   rw [Fa]
   have jC:=Qr g1 (H q).length
   rw [<-g2] at jC
   unfold dh
   rw [jC]
   simp only [bind_some]
   rw [getElem?_append_left (by rw [g3];simp)]
 ·intro av a' w' R' T'
  refine ⟨rfl,av,R',?_⟩
  rw [J9] at T'
  exact T'
theorem aiC {out:Bool} {id:Nat} {ops:Array Oper} {l:List di} {K:(Nat->Value)->ae->Prop} {f:Nat->Value} {h:ae} (hc:RB P N ops=some l) (hi:mc P l 0 [] [] K f h):
  ∃f' h',iy P N out (.region id ops true) f h .normal f' h'/\K f' h':=by
 unfold RB at hc
 split at hc
 ·rename_i l' hl
  simp at hc;subst hc
  exact aCB hl hi
 ·rw [map_eq_some_iff] at hc
  obtain ⟨⟨l',perm⟩,hl,rfl⟩:=hc
  exact aCA hl hi
end
end
section
section
variable {P : Program} {N : Nat}
theorem Lq (f:Nat->Value) (ks ls:List Nat) (xs:List Value) (h:xs=ls.map f):tV (kS (ks++ls) (ks.map f++xs)) f:=by
 subst h
 rw [<-List.map_append]
 exact FU f (ks++ls)
theorem Ut {out:Bool}:∀{c:Code} {hs eD:Hints} {ic:fG},fX P N c hs=some (ic,eD)->(out=true∨ja c=true)->∀{K:Exit->(Nat->Value)->ae->Prop} {f:Nat->Value} {h:ae},jH P ic K f h->
  ∃e f' h',iy P N out c f h e f' h'/\K e f' h':=by
 intro c
 induction c with
 | skip=>
  intro hs eD ic hc ho K f h hi
  simp [fX] at hc
  obtain ⟨rfl,_⟩:=hc
  exact ⟨.normal,f,h,λS hS B ρ a w R=>wpIn_skip ⟨rfl,ρ,R,Tr.refl R.heap⟩,hi⟩
 | region id ops draw=>
  intro hs eD ic hc ho K f h hi
  cases draw with
  | true=>
   simp only [fX] at hc
   split at hc
   ·rename_i l hl
    split at hc
    ·rename_i wh
     simp at hc
     obtain ⟨rfl,_⟩:=hc
     have iA:=agH (af5 wh) hi
     rw [JD] at iA
     obtain ⟨f',h',r1,r2⟩:=aiC (id:=id) hl iA
     exact ⟨.normal,f',h',r1,r2⟩
    ·cases hc
   ·cases hc
  | false=>
   simp only [fX] at hc
   split at hc
   ·rename_i l hl
    split at hc
    ·rename_i wh
     simp only [Option.some.injEq] at hc
     have he:ic=(ry (uC l) hs).1:=by rw [hc]
     subst he
     obtain ⟨f',h',r1,r2⟩:=aII (i:=0) (os:=ops.toList) (ops:=ops) (λk o hk=>by simpa using hk) (by rw [JS];exact hl) (ajd wh) hi
     refine ⟨.normal,f',h',iy.region ?_,r2⟩
     rw [List.range_eq_range']
     simpa using r1
    ·cases hc
   ·simp at hc
    obtain ⟨rfl,_⟩:=hc
    exact (show False from hi).elim
 | seq x y AT AU=>
  intro hs eD ic hc ho K f h hi
  have AB:out=true∨ja x=true:=ho.imp id λh=>by simp only [ja,and_eq_true] at h;exact h.1
  have AD:out=true∨ja y=true:=ho.imp id λh=>by simp only [ja,and_eq_true] at h;exact h.2
  have both:∀{a b:fG} {h0 jF mb:Hints} {ls:List Nat},fX P N x hs=some (a,h0)->fX P N y jF=some (b,mb)->jH P (.seq a (xS ls b)) K f h->∃e f' h',iy P N out (.seq x y) f h e f' h'/\K e f' h':=by
   intro a b h0 jF mb ls ha hb hi
   obtain ⟨e,dj,h₁,r1,r2⟩:=AT ha AB hi
   by_cases he:e=.normal
   ·subst he
    obtain ⟨Ss,hw,r3⟩:=afU r2
    obtain ⟨e',aAM,KM,s1,s2⟩:=AU hb AD r3
    exact ⟨e',aAM,KM,r1.seq (s1.weaken hw),s2⟩
   ·refine ⟨e,dj,h₁,r1.aJx he,?_⟩
    cases e <;> first | exact absurd rfl he | exact r2
  simp only [fX] at hc
  split at hc
  ·rename_i a h0 jF ha
   split at hc
   ·rename_i b mb hb
    simp at hc
    obtain ⟨rfl,_⟩:=hc
    exact both ha hb hi
   ·cases hc
  ·rename_i a ha
   split at hc
   ·rename_i b mb hb
    simp at hc
    obtain ⟨rfl,_⟩:=hc
    exact both (ls:=[]) ha hb hi
   ·cases hc
  ·cases hc
 | cond c x y AT AU=>
  intro hs eD ic hc ho K f h hi
  have AB:out=true∨ja x=true:=ho.imp id λh=>by simp only [ja,and_eq_true] at h;exact h.1
  have AD:out=true∨ja y=true:=ho.imp id λh=>by simp only [ja,and_eq_true] at h;exact h.2
  simp only [fX] at hc
  split at hc
  ·rename_i aI
   split at hc
   ·rename_i a jF ha
    split at hc
    ·rename_i b mb hb
     simp at hc
     obtain ⟨rfl,_⟩:=hc
     rw [aiT] at hi
     simp only [pT] at hi
     split at hi
     ·rename_i t ht
      cases t
      ·simp at hi
       obtain ⟨e,dj,h₁,r1,r2⟩:=AU hb AD hi
       exact ⟨e,dj,h₁,iy.cond aI ht (by simpa using r1),r2⟩
      ·simp at hi
       obtain ⟨e,dj,h₁,r1,r2⟩:=AT ha AB hi
       exact ⟨e,dj,h₁,iy.cond aI ht (by simpa using r1),r2⟩
     ·exact hi.elim
    ·cases hc
   ·cases hc
  ·cases hc
 | block id c ih=>
  intro hs eD ic hc ho K f h hi
  simp only [fX] at hc
  split at hc
  ·rename_i a jF ha
   simp at hc
   obtain ⟨rfl,_⟩:=hc
   obtain ⟨e,dj,h₁,r1,r2⟩:=ih ha (ho.imp (λh=>h) λh=>h) hi
   refine ⟨_,dj,h₁,r1.block,?_⟩
   cases e with
   | exit i=>
    simp only [bH] at r2⊢
    split <;> rename_i h
    ·rw [if_pos h] at r2;exact r2
    ·rw [if_neg h] at r2;exact r2
   | _=>exact r2
  ·cases hc
 | loop c ih=>
  intro hs eD ic hc ho K f h hi
  simp only [fX] at hc
  split at hc
  ·rename_i ks ls jF
   split at hc
   ·rename_i a mb ha
    simp at hc
    obtain ⟨rfl,_⟩:=hc
    obtain ⟨J,μ,h0,TH⟩:=hi
    have key:∀(n:Nat) (xs:List Value) (hh:ae),μ xs hh=n->J xs hh->∃e f' h',qD P N out c (kS (ks++ls) (ks.map f++xs)) hh e f' h'/\K e f' h':=by
     intro n
     induction n using Nat.strongRecOn with
     | _ n tH=>
      intro xs hh hn hJ
      obtain ⟨e,dj,h₁,r1,r2⟩:=ih ha (ho.imp (λh=>h) λh=>h) (TH xs hh hJ)
      by_cases he:e=.normal
      ·subst he
       obtain ⟨hk,SL,aF⟩:=r2
       obtain ⟨e',f',h',s1,s2⟩:=tH (μ (ls.map dj) h₁) (by omega) (ls.map dj) h₁ rfl SL
       refine ⟨e',f',h',qD.next r1 (s1.weaken ?_),s2⟩
       rw [<-hk]
       exact Lq dj ks ls _ rfl
      ·refine ⟨e,dj,h₁,qD.leave he r1,?_⟩
       cases e <;> first | exact absurd rfl he | exact r2
    obtain ⟨e,f',h',s1,s2⟩:=key _ (ls.map f) h rfl h0
    exact ⟨e,f',h',(s1.weaken (Lq f ks ls _ rfl)).run,s2⟩
   ·cases hc
  ·cases hc
 | exit id=>
  intro hs eD ic hc ho K f h hi
  simp [fX] at hc
  obtain ⟨rfl,_⟩:=hc
  exact ⟨.exit id,f,h,λS hS B ρ a w R=>wpIn_exit ⟨rfl,ρ,R,Tr.refl R.heap⟩,hi⟩
 | ret=>
  intro hs eD ic hc ho K f h hi
  simp [fX] at hc
  obtain ⟨rfl,_⟩:=hc
  exact ⟨.ret,f,h,λS hS B ρ a w R=>wpIn_ret ⟨rfl,ρ,R,Tr.refl R.heap⟩,hi⟩
 | rangeFunc g ps kL body=>
  intro hs eD ic hc ho K f h hi
  have ho:out=true:=ho.resolve_right (by simp [ja])
  subst ho
  simp only [fX] at hc
  split at hc
  ·rename_i ls jF
   split at hc
   ·rename_i hk
    simp at hc
    obtain ⟨rfl,_⟩:=hc
    simp only [and_eq_true] at hk
    obtain ⟨h',r1,r2⟩:=ap3 hk.1 hi
    exact ⟨.normal,f,h',r1,r2⟩
   ·cases hc
  ·cases hc
 | _=>intro hs eD ic hc;simp [fX] at hc
end
end
section
section
variable {P : Program} {ρ : aO} {h : ae} {w : World}
def C7:List Tmp->List Value->(Nat->Value)->Nat->Value
 | p::ps,v::vs,f=>C7 ps vs (yL f p v)
 | _,_,f=>f
theorem aoT {N:Nat}:∀{ps:List Tmp} {args args':List Value} {f:Nat->Value} {tmps:Array Value},bR ρ args args'->(∀p∈ps,p<N)->tmps.size=N->(∀t,aC ρ (f t) (tmps.getD t Go.undef))->
  ((ps.zip args').foldl (λ(t:Array Value) (p,v)=>t.setIfInBounds p v) tmps).size=N/\
   ∀t,aC ρ (C7 ps args f t) (((ps.zip args').foldl (λ(t:Array Value) (p,v)=>t.setIfInBounds p v) tmps).getD t Go.undef)
 | [],args,args',f,tmps,_,_,hs,hf=>⟨hs,hf⟩
 | p::ps,_,_,f,tmps,.nil,_,hs,hf=>⟨hs,hf⟩
 | p::ps,_,_,f,tmps,.cons (x:=x) (y:=y) ha hr,hp,hs,hf=>by
  simp only [List.zip_cons_cons,List.foldl_cons,C7]
  refine aoT hr (λq hq=>hp q (by simp [hq])) (by simpa using hs) ?_
  intro t
  simp only [tS]
  by_cases ht:t=p
  ·subst ht
   have:t<tmps.size:=by rw [hs];exact hp t (by simp)
   simp [Array.getD,this]
   exact ha
  ·rw [if_neg ht]
   have e:(tmps.setIfInBounds p y).getD t Go.undef=tmps.getD t Go.undef:=by
    simp only [Array.getD_eq_getD_getElem?,Array.getElem?_setIfInBounds]
    rw [if_neg (by omega)]
   rw [e]
   exact hf t
theorem marks.put {B:Nat} {l:Nat} {o:Obj}:∀{ds:List Deferred},(∀d∈ds,d≠mark l)->marks B ds w->marks B ds (w.putObj l o)
 | [],_,h=>by simpa [marks] using h
 | d::ds,bt,⟨⟨D,h1,h2,h3,h4⟩,h5⟩=>by
  refine ⟨⟨D,h1,h2,?_,h4⟩,marks.put (λd hd=>bt d (by simp [hd])) h5⟩
  rw [Bj]
  ·exact h3
  ·rintro rfl
   exact bt d (by simp) h1
theorem marks.ne {B l:Nat} {rec:Loop} (hl:w.heap[l]?=some (.loop rec)):∀{ds:List Deferred},marks B ds w->∀d∈ds,d≠mark l
 | [],_,d,hd=>by simp at hd
 | d::ds,⟨⟨D,h1,h2,h3,h4⟩,h5⟩,d',hd=>by
  rcases mem_cons.1 hd with rfl | hd
  ·rintro e
   rw [h1] at e
   obtain rfl:=ajA e
   rw [hl] at h3
   cases h3
  ·exact marks.ne hl h5 d' hd
theorem ajZ {av:aO} {h':ae} {w':World} (H':a9 P av h' w') (T:Tr ρ h w av h' w') {l:Nat} {rec:Loop} (aF:l<w.heap.size) (hl:w'.heap[l]?=some (.loop rec))
  (no:∀j s,ρ j=some s->s.bC=l->¬cF h j):∀j s,av j=some s->s.bC=l->¬dZ h' j:=by
 intro j s hj hs hv
 obtain ⟨c,ls,vs,hc⟩:=H'.aiP hl hj hs hv
 cases hr:ρ j with
 | some s'=>
  have:=T.ext j s' hr
  rw [hj] at this
  cases this
  exact no j s hr hs (T.kinds j (T.jY j s hr) (.inr (.inr (.inl ⟨_,_,_,hc⟩))))
 | none=>
  obtain ⟨_,q⟩:=T.fresh j s hj hr
  rcases q with q | ⟨j',s',q1,q2,q3⟩
  ·omega
  ·exact no j' s' q1 (q2.trans hs) q3
theorem a9.MA (H:a9 P ρ h w) {i:Nat} {r:RI} {o:aq} {x:Obj} (hi:ρ i=some r) (no:∀j s,ρ j=some s->s.bC=r.bC->¬dZ h j) (ho:mf ρ (w.putObj r.bC x) r o):
  a9 P ρ (h.set i o) (w.putObj r.bC x):=by
 have aF:=H.lt hi
 have ml:∀j,j≠i->cF (h.set i o) j->cF h j:=by
  intro j e hm
  unfold cF at hm⊢
  rw [getElem?_set_ne (Ne.symm e)] at hm
  exact hm
 have ll:∀j,j≠i->dZ (h.set i o) j->dZ h j:=by
  intro j e hm
  unfold dZ at hm⊢
  rw [getElem?_set_ne (Ne.symm e)] at hm
  exact hm
 refine ⟨?_,?_,H.bm⟩
 ·intro j s hj
  by_cases e:j=i
  ·subst e
   rw [hi] at hj
   cases hj
   exact ⟨o,by rw [getElem?_set_self aF],ho⟩
  ·obtain ⟨o',dX,hr⟩:=H.obj j s hj
   refine ⟨o',by rw [getElem?_set_ne (Ne.symm e)];exact dX,?_⟩
   by_cases hd:o'=.dead
   ·subst hd;trivial
   ·refine hr.mono (.refl _) (Bj ?_)
    intro e'
    exact no j s hj e' ⟨o',dX,hd⟩
 ·intro a b s t ha hb bc hm hl
  by_cases ea:a=i <;> by_cases eb:b=i
  ·omega
  ·subst ea
   rw [hi] at ha;cases ha
   exact absurd (ll b eb hl) (no b t hb bc.symm)
  ·subst eb
   rw [hi] at hb;cases hb
   exact absurd (ml a ea hm).live (no a s ha bc)
  ·exact H.inj a b s t ha hb bc (ml a ea hm) (ll b eb hl)
theorem Tr.MA {av:aO} {h':ae} {w':World} {i:Nat} (hm:cF h i) (T:Tr ρ (h.set i .dead) w av h' w') (o:aq):Tr ρ h w av (h'.set i o) w':=by
 have ml:∀j,cF (h.set i .dead) j->cF h j:=by
  intro j hj
  by_cases e:j=i
  ·subst e;exact hm
  ·unfold cF at hj⊢
   rw [getElem?_set_ne (Ne.symm e)] at hj
   exact hj
 exact {
  ext:=T.ext
  len:=by simpa using T.len
  jY:=λj s hj=>by simpa using T.jY j s hj
  kinds:=by
   intro j hj Au
   by_cases e:j=i
   ·subst e;exact hm
   ·refine ml j (T.kinds j (by simpa using hj) ?_)
    unfold cF at Au⊢
    rw [getElem?_set_ne (Ne.symm e)] at Au
    exact Au
  fresh:=by
   intro j s h1 h2
   obtain ⟨q1,q2⟩:=T.fresh j s h1 h2
   refine ⟨by simpa using q1,q2.imp (λh=>h) ?_⟩
   rintro ⟨j',s',a,b,c⟩
   exact ⟨j',s',a,b,ml j' c⟩
  iR:=T.iR
  gZ:=λk hk dV=>T.gZ k hk λj s hj hs hmm=>dV j s hj hs (ml j hmm)
  os:=T.os
  tape:=T.tape
  output:=T.output }
theorem Tr.ao2 {i:Nat} {r:RI} (hd:∀j s,ρ j=some s->j<h.length) (hi:ρ i=some r) {h₁:ae} (hl:h₁.length=h.length) (hm:cF h₁ i) (x:Obj):Tr ρ h₁ w ρ h₁ (w.putObj r.bC x) where
 ext:=.refl _
 len:=le_refl _
 jY:=λj s hj=>by rw [hl];exact hd j s hj
 kinds:=λ_ _ h=>h
 fresh:=λj s h1 h2=>by rw [h1] at h2;cases h2
 iR:=by rw [World.putObj_size];exact le_refl _
 gZ:=λk hk dV=>Bj λe=>dV i r hi e.symm hm
 os:=rfl
 tape:=rfl
 output:=rfl
theorem aJD {h:ae} {i:Nat} {o:aq} (hi:h[i]?=some o):h.set i o=h:=by
 apply List.ext_getElem?
 intro j
 by_cases e:j=i
 ·subst e
  rw [getElem?_set_self (bz hi).1,hi]
 ·rw [getElem?_set_ne (Ne.symm e)]
theorem aKR {i:Nat} {c:DP} {ls:List Nat} {vs args:List Value} {ia ib:fG} {jF mb aB9 aCa:Hints} {K:Value->ae->Prop} (hi:h[i]?=some (.loop c ls vs)) (hn:args.length=c.ps.size)
  (Cx:c.ps.all (·<c.N)=true) (ha:fX P c.N c.kL jF=some (ia,aB9)) (hb:fX P c.N c.body mb=some (ib,aCa)) (na:ja c.kL=true) (nb:ja c.body=true)
  (hw:jH P ia (λe f1 h1=>e=.normal/\h1[i]?=some .dead/\jH P ib (λe _ h2=>e=.normal/\h2[i]?=some .dead/\K (.bool true) (h2.set i (.loop c ls vs))) f1 h1) (C7 c.ps.toList args (kS ls vs)) (h.set i .dead)):
  Fy P i args h K:=by
 obtain ⟨e1,f1,h1,r1,rfl,d1,pH⟩:=Ut (out:=false) ha (.inr na) hw
 obtain ⟨e2,f2,h2,r2,rfl,d2,hk⟩:=Ut (out:=false) hb (.inr nb) pH
 refine ⟨.bool true,h2.set i (.loop c ls vs),?_,hk⟩
 intro ρ r args' w oN sX H
 have hmi:cF h i:=.inr (.inr (.inl ⟨_,_,_,hi⟩))
 obtain ⟨o,ho,rW⟩:=H.obj i r oN
 rw [hi] at ho
 cases ho
 obtain ⟨rec,g1,g2,g3,g4,g5,g6,g7,g8⟩:=rW
 have aF:=(Array.getElem?_eq_some_iff.1 g1).1
 have kC:args'.size=rec.params.size:=by
  have:=sX.length
  rw [g6,<-hn,this]
  simp
 refine ⟨rec.fn,_,rec.assign,rec.body,run_yield g1 kC,?_⟩
 rw [g4,g5]
 have EU:(rec.params.zip args').foldl (λ(t:Array Value) (p,v)=>t.setIfInBounds p v) rec.tmps=(c.ps.toList.zip args'.toList).foldl (λ(t:Array Value) (p,v)=>t.setIfInBounds p v) rec.tmps:=by
  rw [g6,<-Array.toList_zip,Array.foldl_toList]
 obtain ⟨p1,p2⟩:=aoT (N:=c.N) (ps:=c.ps.toList) (f:=kS ls vs) (tmps:=rec.tmps) sX (by
  intro p hp
  rw [Array.all_eq_true'] at Cx
  exact of_decide_eq_true (Cx p (by simpa using hp))) g7 g8
 have R0:eQ P c.N w.heap.size ρ (C7 c.ps.toList args (kS ls vs)) (h.set i .dead) { tmps:=(rec.params.zip args').foldl (λ(t:Array Value) (p,v)=>t.setIfInBounds p v) rec.tmps,defers:=[] } w:=
  ⟨by rw [EU];exact p1,le_refl _,λt=>by rw [EU];exact p2 t,H.kill i⟩
 refine roundIn_of_wpIn (F:=Fence.wide) trivial ?_
 refine wpIn_mono (r1 (some r.bC) (λh=>by cases h) _ ρ _ w R0) ?_
 rintro e a1 w1 ⟨rfl,pc,R1,T1⟩
 have u1:∀j s,ρ j=some s->s.bC=r.bC->¬cF (h.set i .dead) j:=by
  intro j s hj hs hm
  by_cases e:j=i
  ·subst e
   unfold cF at hm
   rw [getElem?_set_self (H.lt oN)] at hm
   rcases hm with ⟨_,_,h1⟩ | ⟨_,h1⟩ | ⟨_,_,_,h1⟩ | ⟨_,_,h1⟩ | ⟨_,_,_,h1⟩ | ⟨_,_,_,_,h1⟩ <;> cases h1
  ·refine e (H.inj j i s r hj oN hs ?_ hmi.live)
   unfold cF at hm⊢
   rw [getElem?_set_ne (Ne.symm e)] at hm
   exact hm
 have l1:w1.heap[r.bC]?=some (.loop rec):=(T1.gZ _ aF u1).trans g1
 have Ku:=(Array.getElem?_eq_some_iff.1 l1).1
 refine ⟨_,run_beginRound l1 g2,?_⟩
 have Vb:=ajZ R1.heap T1 aF l1 u1
 have l2:(w1.putObj r.bC (.loop { rec with state:=.busy })).heap[r.bC]?=some (.loop { rec with state:=.busy }):=World.putObj_heap_same Ku
 have R2:eQ P c.N w.heap.size pc f1 h1 a1 (w1.putObj r.bC (.loop { rec with state:=.busy })):=
  ⟨R1.size,marks.put (marks.ne l1 R1.defers) R1.defers,R1.tmp,R1.heap.put Vb _⟩
 refine wpIn_mono (r2 (some r.bC) (λh=>by cases h) _ pc a1 _ R2) ?_
 rintro e a3 w3 ⟨rfl,YQ,R3,T3⟩
 have l3:w3.heap[r.bC]?=some (.loop { rec with state:=.busy }):=(T3.gZ _ (by simpa using Ku) λj s hj hs hm=>Vb j s hj hs hm.live).trans l2
 have no3:=ajZ R3.heap T3 (by simpa using Ku) l3 λj s hj hs hm=>Vb j s hj hs hm.live
 have aB2:({ ({ rec with state:=.busy }:Loop) with state:=if (none:Option Code).isNone then .ready else .done,pending:=none }:Loop)=rec:=by
  cases rec
  simp only at g2 g3
  subst g2
  subst g3
  rfl
 have he:=run_endRound (P:=P) none l3
 rw [aB2] at he
 have Ub:pc i=some r:=T1.ext _ _ oN
 have Uc:YQ i=some r:=T3.ext _ _ Ub
 have ahF:=(Array.getElem?_eq_some_iff.1 l3).1
 refine ⟨_,_,he,.bool true,YQ,rfl,.bool _,?_,?_⟩
 ·refine R3.heap.MA Uc no3 ⟨rec,World.putObj_heap_same ahF,g2,g3,g4,g5,g6,g7,λt=>(g8 t).mono (T1.ext.trans T3.ext)⟩
 ·have m1:cF (h1.set i (.loop c ls vs)) i:=.inr (.inr (.inl ⟨c,ls,vs,getElem?_set_self (R1.heap.lt Ub)⟩))
  have m3:cF (h2.set i (.loop c ls vs)) i:=.inr (.inr (.inl ⟨c,ls,vs,getElem?_set_self (R3.heap.lt Uc)⟩))
  have A:=T1.MA hmi (.loop c ls vs)
  have B:=Tr.ao2 (w:=w1) (λj s hj=>R1.heap.lt hj) Ub (h₁:=h1.set i (.loop c ls vs)) (by simp) m1 (.loop { rec with state:=.busy })
  have e1:(h1.set i (.loop c ls vs)).set i .dead=h1:=by rw [List.set_set,aJD d1]
  have C:Tr pc (h1.set i (.loop c ls vs)) _ YQ (h2.set i (.loop c ls vs)) w3:=Tr.MA m1 (by rw [e1];exact T3) _
  have D:=Tr.ao2 (w:=w3) (λj s hj=>R3.heap.lt hj) Uc (h₁:=h2.set i (.loop c ls vs)) (by simp) m3 (.loop rec)
  exact ((A.trans B).trans C).trans D
end
end
section
inductive kX where
 | tmp (t:Nat)
 | cell (agg:Bool) (n:Nat) (a:Nat)
def yF (r:kX) (f:Nat->Value) (h:ae):Option Value:=
 match r with
 | .tmp t=>some (f t)
 | .cell agg n a=>af agg n h (f a)
def pI:List kX->(Nat->Value)->ae->Option (List Value)
 | [],_,_=>some []
 | r::rs,f,h=>match yF r f h,pI rs f h with
  | some v,some vs=>some (v::vs)
  | _,_=>none
def pack:List Value->Value
 | [v]=>v
 | vs=>.tuple vs.toArray
def xc:List kX->(Nat->Value)->ae->(List Value->Prop)->Prop
 | [],_,_,k=>k []
 | .tmp t::rs,f,h,k=>xc rs f h λvs=>k (f t::vs)
 | .cell agg n a::rs,f,h,k=>gv (af agg n h (f a)) λv=>xc rs f h λvs=>k (v::vs)
def Mx (rs:List kX) (K:Value->ae->Prop) (f:Nat->Value) (h:ae):Prop:=xc rs f h λvs=>K (pack vs) h
theorem My:∀{rs:List kX} {f:Nat->Value} {h:ae} {k:List Value->Prop},xc rs f h k->∃vs,pI rs f h=some vs/\k vs
 | [],f,h,k,hr=>⟨[],rfl,hr⟩
 | .tmp t::rs,f,h,k,hr=>by
  obtain ⟨vs,h1,h2⟩:=My (rs:=rs) hr
  exact ⟨f t::vs,by simp [pI,yF,h1],h2⟩
 | .cell agg n a::rs,f,h,k,hr=>by
  simp only [xc,gv] at hr
  split at hr
  ·rename_i v hv
   obtain ⟨vs,h1,h2⟩:=My (rs:=rs) hr
   exact ⟨v::vs,by simp [pI,yF,h1,hv],h2⟩
  ·exact hr.elim
def QD (rs:List kX) (K:Value->ae->Prop):Exit->(Nat->Value)->ae->Prop
 | .normal,f,h=>Mx rs K f h
 | .ret,f,h=>Mx rs K f h
 | _,_,_=>False
def bw (args:List Value):Nat->Value:=λj=>args.getD j undef
def JB (P:Program):ResultVar->Option kX
 | .tmp t=>some (.tmp t)
 | .cell a t=>
  match P.underlying t with
  | some d=>if jk P t&&(oR d||P.cellsOf t==1) then some (.cell (oR d) (P.cellsOf t) a) else none
  | none=>none
def B4 (P:Program):List ResultVar->Option (List kX)
 | []=>some []
 | r::rs=>match JB P r,B4 P rs with
  | some x,some xs=>some (x::xs)
  | _,_=>none
def bE (P:Program) (F:FuncId) (hs:Hints):Option (Nat×fG×List kX):=
 match P.funcs[F]? with
 | some fn=>match fn.body with
  | some c=>match fX P fn.ntmps c hs,B4 P fn.results.toList with
   | some (ic,_),some rs=>some (fn.ntmps,ic,rs)
   | _,_=>none
  | none=>none
 | none=>none
def bM:Option (Nat×fG×List kX)->fG
 | some (_,c,_)=>c
 | none=>.skip
def fG.l:fG->fG
 | .seq a _=>a
 | .cut _ c=>c
 | .cond _ a _=>a
 | .block _ c=>c
 | .loop _ _ c=>c
 | c=>c
def fG.r:fG->fG
 | .seq _ b=>b
 | .cond _ _ b=>b
 | c=>c
section
variable {P : Program} {w : World} {ρ : aO} {h : ae}
def Bo (tmps:Array Value):ResultVar->Sem Value
 | .tmp t=>pure (tmps.getD t Go.undef)
 | .cell b t=>do loadVar t (<-asAddr (tmps.getD b Go.undef))
theorem aIQ (fn:Func) (tmps:Array Value):results fn tmps=(do let vs <-fn.results.mapM (Bo tmps);pure (if h:vs.size=1 then vs[0] else .tuple vs)):=by
 have e:(λr:ResultVar=>(match r with
   | .tmp t=>(pure (tmps.getD t Go.undef):Sem Value)
   | .cell a t=>do loadVar t (<-asAddr (tmps.getD a Go.undef))))=Bo tmps:=by
  funext r
  cases r <;> rfl
 rw [<-e]
 rfl
theorem aJw {N B:Nat} {f:Nat->Value} {a:Act} (R:eQ P N B ρ f h a w) {r:ResultVar} {x:kX} (hc:JB P r=some x) {v:Value} (hv:yF x f h=some v):
  ∃v',(Bo a.tmps r).run P w=.ok v' w/\aC ρ v v':=by
 cases r with
 | tmp t=>
  simp [JB] at hc;subst hc
  simp [yF] at hv;subst hv
  exact ⟨_,rfl,R.tmp t⟩
 | cell b t=>
  simp only [JB] at hc
  split at hc
  ·rename_i d ht
   split at hc
   ·rename_i hk
    simp at hc;subst hc
    simp only [and_eq_true] at hk
    simp only [yF] at hv
    obtain ⟨v',q1,q2⟩:=aqc R.heap ht hk.1 hv (R.tmp b)
    refine ⟨v',?_,q2⟩
    have kD:=hv
    unfold af at kD
    split at kD
    ·rename_i i o hfb
     have:=R.tmp b
     rw [hfb] at this
     obtain ⟨r',_,e⟩:=this.Gr
     simp only [Bo]
     rw [e] at q1⊢
     simpa [Instr.loadAt,Instr.sureAddr,asAddr] using q1
    ·cases kD
   ·cases hc
  ·cases hc
theorem aqi {α β:Type} (g:α->Sem β) (w:World):∀{xs:List α} {ys:List β},(∀(k:Nat) (x:α),xs[k]?=some x->∃y,ys[k]?=some y/\(g x).run P w=.ok y w)->xs.length=ys.length->(xs.mapM g).run P w=.ok ys w
 | [],[],_,_=>rfl
 | x::xs,y::ys,h,hl=>by
  obtain ⟨y',h1,h2⟩:=h 0 x rfl
  simp at h1;subst h1
  have ih:=aqi g w (xs:=xs) (ys:=ys) (λk a hk=>by simpa using h (k+1) a (by simpa using hk)) (by simpa using hl)
  simp only [List.mapM_cons,Sem.run_bind,h2,Result.andThen_ok,ih,Sem.run_pure]
theorem aqk {N B:Nat} {f:Nat->Value} {a:Act} (R:eQ P N B ρ f h a w):∀{l:List ResultVar} {rs:List kX} {vs:List Value},B4 P l=some rs->pI rs f h=some vs->
  ∃km:List Value,bR ρ vs km/\l.length=km.length/\∀(k:Nat) (r:ResultVar),l[k]?=some r->∃y,km[k]?=some y/\(Bo a.tmps r).run P w=.ok y w
 | [],rs,vs,hc,hv=>by
  simp [B4] at hc;subst hc
  simp [pI] at hv;subst hv
  exact ⟨[],.nil,rfl,λk r hk=>by simp at hk⟩
 | r::l,rs,vs,hc,hv=>by
  simp only [B4] at hc
  split at hc
  ·rename_i x xs h1 h2
   simp at hc;subst hc
   simp only [pI] at hv
   split at hv
   ·rename_i v vs h3 h4
    simp at hv;subst hv
    obtain ⟨v',q1,q2⟩:=aJw R h1 h3
    obtain ⟨km,s1,s2,s3⟩:=aqk R h2 h4
    refine ⟨v'::km,.cons q2 s1,by simp [s2],?_⟩
    intro k r' hk
    cases k with
    | zero=>simp at hk;subst hk;exact ⟨v',rfl,q1⟩
    | succ k=>simpa using s3 k r' (by simpa using hk)
   ·cases hv
  ·cases hc
theorem aql {N B:Nat} {f:Nat->Value} {a:Act} (R:eQ P N B ρ f h a w) {fn:Func} {rs:List kX} {vs:List Value} (hc:B4 P fn.results.toList=some rs) (hv:pI rs f h=some vs):
  ∃v',(results fn a.tmps).run P w=.ok v' w/\aC ρ (pack vs) v':=by
 obtain ⟨km,h1,h2,h3⟩:=aqk R hc hv
 have hm:=aqi (P:=P) (Bo a.tmps) w h3 h2
 have fq:(fn.results.mapM (Bo a.tmps)).run P w=.ok km.toArray w:=by
  rw [Array.mapM_eq_mapM_toList]
  simp only [Sem.run_map,hm,Result.andThen_ok]
 refine ⟨if h:km.toArray.size=1 then km.toArray[0] else .tuple km.toArray,?_,?_⟩
 ·rw [aIQ]
  simp only [Sem.run_bind,fq,Result.andThen_ok,Sem.run_pure]
 ·cases h1 with
  | nil=>simpa [pack] using aC.tR (ρ:=ρ) .nil
  | cons a1 a2=>
   cases a2 with
   | nil=>simpa [pack] using a1
   | cons b1 b2=>simpa [pack] using aC.tR (.cons a1 (.cons b1 b2))
theorem agD {args:List Value} {args':Array Value} (hv:bR ρ args args'.toList) (N:Nat) (t:Nat):aC ρ (bw args t) ((args'++replicate (N-args'.size) Go.undef).getD t Go.undef):=by
 unfold bw
 have hl:=hv.length
 by_cases ht:t<args.length
 ·obtain ⟨y,hy,hr⟩:=hv.get (k:=t) (x:=args[t]) (getElem?_eq_getElem ht)
  have hs:t<args'.size:=by simpa using (by omega:t<args'.toList.length)
  have e1:args.getD t undef=args[t]:=by simp [getD,ht]
  rw [e1,Array.getD_eq_getD_getElem?,Array.getElem?_append_left hs]
  simp only [getElem?_toList] at hy
  rw [hy]
  exact hr
 ·have e1:args.getD t undef=undef:=by simp [getD,le_of_not_lt ht]
  have e2:(args'++replicate (N-args'.size) Go.undef).getD t Go.undef=undef:=by
   have hs:¬t<args'.size:=by simp at hl;omega
   rw [Array.getD_eq_getD_getElem?,Array.getElem?_append_right (by omega)]
   by_cases h2:t-args'.size<N-args'.size
   ·simp [h2]
   ·simp [h2]
  rw [e1,e2]
  exact aC.undef _
theorem Tr.aDN {av:aO} {h':ae} {w':World} (T:Tr ρ h w av h' w') {l:Nat} (hl:w.heap.size<=l) (o:Obj):Tr ρ h w av h' (w'.putObj l o) where
 ext:=T.ext
 len:=T.len
 jY:=T.jY
 kinds:=T.kinds
 fresh:=T.fresh
 iR:=by rw [World.putObj_size];exact T.iR
 gZ:=λk hk dV=>by rw [Bj (by omega)];exact T.gZ k hk dV
 os:=T.os
 tape:=T.tape
 output:=T.output
theorem UH {av:aO} {h':ae} {fn:Func} {tmps:Array Value} {Q:Ending->World->Prop}:∀{ds:List Deferred} {w':World},marks w.heap.size ds w'->a9 P av h' w'->Tr ρ h w av h' w'->
  (∀kG,a9 P av h' kG->Tr ρ h w av h' kG->∃v,(results fn tmps).run P kG=.ok v kG/\Q (.returned v) kG)->LeavesInM Fence.wide 0 P fn tmps Q ds .returning w'
 | [],w',_,H,T,hq=>hq w' H T
 | d::ds,w',⟨⟨D,h1,h2,h3,h4⟩,h5⟩,H,T,hq=>by
  refine ⟨by simp,.inl ⟨D,_,by rw [h1];rfl,run_takeDeferred h3,?_⟩⟩
  exact UH (marks.put (λd hd=>h4 d hd) h5) (H.put (λj s hj hs=>H.Vd h3 hj hs) _) (T.aDN h2 _) hq
theorem aiA {F:FuncId} {N:Nat} {ic:fG} {rs:List kX} {hs:Hints} (hc:bE P F hs=some (N,ic,rs)) {args:List Value} (ha:args.length<=N) {K:Value->ae->Prop}
  (hi:jH P ic (QD rs K) (bw args) h):sk P F args h K:=by
 unfold bE at hc
 split at hc
 ·rename_i fn hf
  split at hc
  ·rename_i c hb
   split at hc
   ·rename_i ic' _ Xz h1 h2
    simp at hc
    obtain ⟨hN,rfl,rfl⟩:=hc
    obtain ⟨e,f',h',r1,r2⟩:=Ut (out:=true) h1 (.inl rfl) hi
    have tw:(e=.normal∨e=.ret)/\Mx Xz K f' h':=by
     cases e <;> first | exact ⟨.inl rfl,r2⟩ | exact ⟨.inr rfl,r2⟩ | exact r2.elim
    obtain ⟨he,tw⟩:=tw
    obtain ⟨vs,yy,tw⟩:=My tw
    ·refine ⟨pack vs,h',?_,tw⟩
     intro ρ args' w hv H
     refine callsIn_wide.1 (callsIn_of_wp_marks (F:=Fence.wide) (n:=0) hf hb trivial ?_ rfl)
     have kC:args'.size=args.length:=by have:=hv.length;simpa using this.symm
     have R:eQ P fn.ntmps w.heap.size ρ (bw args) h { tmps:=args'++replicate (fn.ntmps-args'.size) Go.undef,defers:=[] } w:=⟨by simp;omega,le_refl _,agD hv fn.ntmps,H⟩
     refine wpIn_mono (r1 none (λ_=>rfl) _ ρ _ w R) ?_
     rintro e' a' w' ⟨rfl,av,R',T⟩
     have key:LeavesInM Fence.wide 0 P fn a'.tmps (λe w'=>∃v' av,e=.returned v'/\aC av (pack vs) v'/\a9 P av h' w'/\Tr ρ h w av h' w') a'.defers .returning w':=by
      refine UH R'.defers R'.heap T ?_
      intro kG DI uj
      have pq:eQ P fn.ntmps 0 av f' h' { a' with defers:=[] } kG:=⟨R'.size,Nat.zero_le _,R'.tmp,DI⟩
      obtain ⟨v',q1,q2⟩:=aql pq h2 yy
      exact ⟨v',q1,v',av,rfl,q2,DI,uj⟩
     rcases he with rfl | rfl
     ·exact key
     ·exact key
   ·cases hc
  ·cases hc
 ·cases hc
theorem aCx {F:FuncId} {args:List Value} {h:ae} {v:Value} (hi:sk P F args h λu _=>u=v) {ρ:aO} {args':Array Value} {w:World} (hv:bR ρ args args'.toList) (H:a9 P ρ h w)
  (jE:∀i,¬cF h i):Calls P F args' w λe w'=>(∃v' av,e=.returned v'/\aC av v v')/\RowKit.Below w.heap.size w w':=by
 obtain ⟨u,h',hc,rfl⟩:=hi
 refine (hc ρ args' w hv H).mono ?_
 rintro e w' ⟨v',av,rfl,h1,_,T⟩
 exact ⟨⟨v',av,rfl,h1⟩,⟨T.os,T.tape,T.output,T.iR,λk hk=>T.gZ k hk λj s _ _ hm=>jE j hm⟩⟩
end
end
section
abbrev VK:=Value->ae->Prop
abbrev LQ:=List Value->ae->Prop
abbrev gm (a n:Nat):jM:=⟨some a,.p (.mv (.tmp n))⟩
abbrev gd (a n m:Nat):kJ:=⟨some a,.p (.mv (.tmp n)),m⟩
abbrev ci (n:Int):Operand:=.const (.int .i64 n)
inductive OP (o:Option Value) (K:Value->Prop):Prop | mk:gv o K->OP o K
inductive OH (o:Option (Value×ae)) (K:Value->ae->Prop):Prop | mk:oc o K->OH o K
inductive aN (c:Value) (a b:Prop):Prop | mk:pT c a b->aN c a b
inductive ck (v:Value) (b:Bool) (A B:Prop):Prop | mk:lE v b A B->ck v b A B
inductive ax (Q:(Nat->Value)->ae->Prop) (ls:List Nat) (vs:List Value) (h:ae):Prop | mk:B6 Q ls vs h->ax Q ls vs h
inductive cO (init:List Value) (h:ae) (Q:(List Value->ae->Prop)->List Value->ae->Prop):Prop | mk:A3 init h Q->cO init h Q
inductive ak (P:Program) (F:FuncId) (args:List Value) (h:ae) (K:Value->ae->Prop):Prop | mk:sk P F args h K->ak P F args h K
inductive vG (P:Program) (x:Value) (args:List Value) (h:ae) (K:Value->ae->Prop):Prop | mk:uo P x args h K->vG P x args h K
inductive BP (P:Program) (g:Value) (ls:List Nat) (vs:List Value) (c:DP) (h:ae) (K:ae->Prop):Prop | mk:vk P g ls vs c h K->BP P g ls vs c h K
theorem abk:BP=vk:=funext λ_=>funext λ_=>funext λ_=>funext λ_=>funext λ_=>funext λ_=>funext λ_=>propext ⟨λ⟨h⟩=>h,.mk⟩
theorem BO:OP=gv:=funext λ_=>funext λ_=>propext ⟨λ⟨h⟩=>h,.mk⟩
theorem OB:OH=oc:=funext λ_=>funext λ_=>propext ⟨λ⟨h⟩=>h,.mk⟩
theorem ZI:aN=pT:=funext λ_=>funext λ_=>funext λ_=>propext ⟨λ⟨h⟩=>h,.mk⟩
theorem NK:ck=lE:=funext λ_=>funext λ_=>funext λ_=>funext λ_=>propext ⟨λ⟨h⟩=>h,.mk⟩
theorem DH:ax=B6:=funext λ_=>funext λ_=>funext λ_=>funext λ_=>propext ⟨λ⟨h⟩=>h,.mk⟩
theorem abi:cO=A3:=funext λ_=>funext λ_=>funext λ_=>propext ⟨λ⟨h⟩=>h,.mk⟩
theorem uc:ak=sk:=funext λ_=>funext λ_=>funext λ_=>funext λ_=>funext λ_=>propext ⟨λ⟨h⟩=>h,.mk⟩
theorem NJ:vG=uo:=funext λ_=>funext λ_=>funext λ_=>funext λ_=>funext λ_=>propext ⟨λ⟨h⟩=>h,.mk⟩
theorem arJ (Q:(Nat->Value)->ae->Prop) (ls:List Nat) (vs:List Value) (h:ae):ax Q ls vs h=Q (kS ls vs) h:=by
 rw [DH]
 rfl
theorem az {Q:(Nat->Value)->ae->Prop} {ls:List Nat} {vs:List Value} {h:ae} {A:Prop} (e:Q (kS ls vs) h=A):ax Q ls vs h=A:=(arJ _ _ _ _).trans e
def Gs (o:qF) (g:Operand->Value) (k:Value->Prop):Prop:=
 match o with
 | .mv x=>k (g x)
 | .K7 n=>k (.int .i64 n)
 | .fn f a b=>k (.func (.func f) (a.map g).toArray (b.map g).toArray)
 | o=>OP (j7 o g) k
theorem W4 (o:qF) (g:Operand->Value) (k:Value->Prop):Gs o g k=gv (j7 o g) k:=by
 unfold Gs
 split
 ·rfl
 ·rfl
 ·rfl
 ·rw [BO]
def MT (P:Program) (o:iG) (f:Nat->Value) (h:ae) (K:Value->ae->Prop):Prop:=
 match o with
 | .p o=>Gs o (ev f) λv=>K v h
 | .l o=>OP (gr o (ev f) h) λv=>K v h
 | .e o=>OH (gS o (ev f) h) K
 | .call g args=>ak P g (args.map (ev f)) h K
 | .lV x args=>vG P (ev f x) (args.map (ev f)) h K
theorem aJZ (P:Program) (o:iG) (f:Nat->Value) (h:ae) (K:Value->ae->Prop):MT P o f h K=dE P o f h K:=by
 cases o <;> simp only [MT,dE,W4,BO,OB,uc,NJ]
def EG (P:Program) (l:List jM) (K:(Nat->Value)->ae->Prop):(Nat->Value)->ae->Prop:=
 List.rec (motive:=λ_=>(Nat->Value)->ae->Prop) (λf h=>K f h) (λo _ ih f h=>MT P o.op f h λv h'=>ih (dS f o.dst v) h') l
theorem agQ (P:Program) (l:List jM) (K:(Nat->Value)->ae->Prop):∀(f:Nat->Value) (h:ae),EG P l K f h=yc P l K f h:=by
 induction l with
 | nil=>intro f h;rfl
 | cons o os ih=>
  intro f h
  show MT P o.op f h (λv h'=>EG P os K (dS f o.dst v) h')=_
  rw [aJZ,yc]
  congr 1
  funext v h'
  exact ih _ _
def Vm (P:Program) (g:Option (Nat×Bool)) (l:List jM) (K:(Nat->Value)->ae->Prop) (f:Nat->Value) (h:ae):Prop:=
 match g with
 | none=>EG P l K f h
 | some (s,b)=>ck (f s) b (EG P l K f h) (K (Dn l f) h)
theorem aEA (P:Program) (g:Option (Nat×Bool)) (l:List jM) (K:(Nat->Value)->ae->Prop) (f:Nat->Value) (h:ae):Vm P g l K f h=tM P g l K f h:=by
 unfold Vm tM
 split <;> simp only [agQ,NK]
abbrev ZF:=List (Nat×ae)->fx->Value->ae->Prop
def JI (P:Program) (io:iG) (pre j:Nat) (aR:List (Nat×ae)) (aM:fx) (f:Nat->Value) (h:ae) (next:ZF):Prop:=
 match io with
 | .p po=>Gs po (ev f) λv=>next aR aM v h
 | .l lo=>OP (gr lo (ev f) h) λv=>xP pre lo f v aR/\next aR (aM++[(j,lo,f,v)]) v h
 | .e (.fl a)=>OH (gS (.fl a) (ev f) h) λv h'=>OP (dh h' v) λu=>mz pre h' aM/\next (aR++[(j,h)]) (aM++[(j,.obj (.const v),f,u)]) v h'
 | .e eo=>OH (gS eo (ev f) h) λv h'=>mz pre h' aM/\next (aR++[(j,h)]) aM v h'
 | .call g args=>ak P g (args.map (ev f)) h λv h'=>mz pre h' aM/\next (aR++[(j,h)]) aM v h'
 | .lV x args=>vG P (ev f x) (args.map (ev f)) h λv h'=>mz pre h' aM/\next (aR++[(j,h)]) aM v h'
theorem azn (P:Program) (io:iG) (pre j:Nat) (aR:List (Nat×ae)) (aM:fx) (f:Nat->Value) (h:ae) (next:ZF):
  JI P io pre j aR aM f h next=lX P io pre j aR aM f h next:=by
 cases io with
 | e eo=>cases eo <;> simp only [JI,lX,BO,OB]
 | _=>simp only [JI,lX,W4,BO,uc,NJ]
abbrev ZE:=List (Nat×ae)->fx->(Nat->Value)->ae->Prop
def ED (P:Program):List kJ->Nat->List (Nat×ae)->fx->ZE->(Nat->Value)->ae->Prop
 | [],_,aR,aM,K,f,h=>K aR aM f h
 | o::os,j,aR,aM,K,f,h=>JI P o.op o.pre j aR aM f h λaR aM v h'=>ED P os (j+1) aR aM K (dS f o.dst v) h'
theorem Sx (P:Program):∀(l:List kJ) (j:Nat) (aR:List (Nat×ae)) (aM:fx) (K:ZE) (f:Nat->Value) (h:ae),ED P l j aR aM K f h=pz P l j aR aM K f h
 | [],_,_,_,_,_,_=>rfl
 | o::os,j,aR,aM,K,f,h=>by
  rw [ED,pz,azn]
  congr 1
  funext aR aM v h'
  exact Sx P os _ _ _ _ _ _
def uB (P:Program):List (Option (Nat×Bool)×List kJ)->Nat->List (Nat×ae)->fx->((Nat->Value)->ae->Prop)->(Nat->Value)->ae->Prop
 | [],_,_,_,K,f,h=>K f h
 | (none,l)::gs,j,aR,aM,K,f,h=>ED P l j aR aM (λaR aM f h=>uB P gs (j+l.length) aR aM K f h) f h
 | (some (s,b),l)::gs,j,aR,aM,K,f,h=>
  ck (f s) b (ED P l j aR aM (λaR aM f h=>uB P gs (j+l.length) aR aM K f h) f h)
   (vY l j aR aM (λaR aM f h=>uB P gs (j+l.length) aR aM K f h) f h)
theorem J3 (P:Program):∀(gs:List (Option (Nat×Bool)×List kJ)) (j:Nat) (aR:List (Nat×ae)) (aM:fx) (K:(Nat->Value)->ae->Prop) (f:Nat->Value) (h:ae),
  uB P gs j aR aM K f h=oF P gs j aR aM K f h
 | [],_,_,_,_,_,_=>rfl
 | (none,l)::gs,j,aR,aM,K,f,h=>by
  have e:(λaR aM f h=>uB P gs (j+l.length) aR aM K f h)=λaR aM f h=>oF P gs (j+l.length) aR aM K f h:=by
   funext a b c d;exact J3 P gs _ _ _ _ _ _
  rw [uB,oF,Sx,e]
 | (some (s,b),l)::gs,j,aR,aM,K,f,h=>by
  have e:(λaR aM f h=>uB P gs (j+l.length) aR aM K f h)=λaR aM f h=>oF P gs (j+l.length) aR aM K f h:=by
   funext a b c d;exact J3 P gs _ _ _ _ _ _
  rw [uB,oF,Sx,e,NK]
noncomputable def aj (P:Program) (c:fG):ar->(Nat->Value)->ae->Prop:=
 fG.rec (motive:=λ_=>ar->(Nat->Value)->ae->Prop)
  (λK f h=>K .normal f h)
  (λl K f h=>uB P l 0 [] [] (K .normal) f h)
  (λg l K f h=>Vm P g l (K .normal) f h)
  (λ_ _ ia ib K f h=>ia (aH (ib K) K) f h)
  (λls _ ic K f h=>ax (ic K) ls (ls.map f) h)
  (λc _ _ ia ib K f h=>aN (ev f c) (ia K f h) (ib K f h))
  (λid _ ic K f h=>ic (bH id K) f h)
  (λks ls _ ic K f h=>cO (ls.map f) h λL xs hx=>ax (ic (aH (λf' aX=>ks.map f'=ks.map f/\L (ls.map f') aX) K)) (ks++ls) (ks.map f++xs) hx)
  (λid K f h=>K (.exit id) f h)
  (λK f h=>K .ret f h)
  (λg ls c K f h=>BP P (ev f g) ls (ls.map f) c h (K .normal f)) c
theorem aCW (P:Program) (c:fG):aj P c=jH P c:=by
 induction c with
 | skip=>rfl
 | JH l=>funext K f h;exact J3 P l 0 [] [] (K .normal) f h
 | ops g l=>funext K f h;exact aEA P g l (K .normal) f h
 | seq a b so tG=>
  funext K f h
  show aj P a (aH (aj P b K) K) f h=jH P a (aH (jH P b K) K) f h
  rw [so,tG]
 | cut ls c ih=>
  funext K f h
  show ax (aj P c K) ls (ls.map f) h=B6 (jH P c K) ls (ls.map f) h
  rw [ih,DH]
 | cond c a b so tG=>
  funext K f h
  show aN (ev f c) (aj P a K f h) (aj P b K f h)=pT (ev f c) (jH P a K f h) (jH P b K f h)
  rw [so,tG,ZI]
 | block id c ih=>
  funext K f h
  show aj P c (bH id K) f h=jH P c (bH id K) f h
  rw [ih]
 | loop ks ls c ih=>
  funext K f h
  show cO (ls.map f) h (λL xs hx=>ax (aj P c (aH (λf' aX=>ks.map f'=ks.map f/\L (ls.map f') aX) K)) (ks++ls) (ks.map f++xs) hx)=
   A3 (ls.map f) h (λL xs hx=>jH P c (aH (λf' aX=>ks.map f'=ks.map f/\L (ls.map f') aX) K) (kS (ks++ls) (ks.map f++xs)) hx)
  rw [ih,abi,DH]
  rfl
 | exit id=>rfl
 | ret=>rfl
 | range g ls c=>
  funext K f h
  show BP P (ev f g) ls (ls.map f) c h (K .normal f)=vk P (ev f g) ls (ls.map f) c h (K .normal f)
  rw [abk]
def Da:List kX->(Nat->Value)->ae->(List Value->Prop)->Prop
 | [],_,_,k=>k []
 | .tmp t::rs,f,h,k=>Da rs f h λvs=>k (f t::vs)
 | .cell agg n a::rs,f,h,k=>OP (af agg n h (f a)) λv=>Da rs f h λvs=>k (v::vs)
theorem Xx:∀(rs:List kX) (f:Nat->Value) (h:ae) (k:List Value->Prop),Da rs f h k=xc rs f h k
 | [],_,_,_=>rfl
 | .tmp _::rs,f,h,k=>Xx rs f h _
 | .cell agg n a::rs,f,h,k=>by
  rw [Da,xc,BO]
  congr 1
  funext v
  exact Xx rs f h _
def aT (rs:List kX) (K:Value->ae->Prop):ar
 | .normal,f,h=>Da rs f h λvs=>K (pack vs) h
 | .ret,f,h=>Da rs f h λvs=>K (pack vs) h
 | _,_,_=>False
theorem abK (rs:List kX) (K:Value->ae->Prop):aT rs K=QD rs K:=by
 funext e f h
 cases e <;> first | rfl | exact Xx rs f h _
theorem bN {P:Program} {F:FuncId} {N:Nat} {ic:fG} {rs:List kX} {hs:Hints} {h:ae} (hc:bE P F hs=some (N,ic,rs)) {args:List Value} (ha:args.length<=N)
  {K:Value->ae->Prop} (hi:aj P ic (aT rs K) (bw args) h):ak P F args h K:=
 .mk (aiA hc ha (by rw [<-aCW,<-abK];exact hi))
end
section
section aKy
variable {A B : Prop} {K : Value -> Prop} {K2 : Value -> ae -> Prop} {v : Value} {h : ae}
@[simp] theorem ah : OP (some v) K ↔ K v := ⟨λ⟨h⟩ => h, λh => .mk h⟩
@[simp] theorem aE : OH (some (v, h)) K2 ↔ K2 v h := ⟨λ⟨h⟩ => h, λh => .mk h⟩
theorem HJ {o:Option (Value×ae)} (ho:o=some (v,h)) (hk:K2 v h):OH o K2:=by rw [ho];exact aE.2 hk
@[simp] theorem dA : aN (.bool true) A B ↔ A := ⟨λ⟨h⟩ => by simpa [pT] using h, λh => .mk (by simpa [pT] using h)⟩
@[simp] theorem dD : aN (.bool false) A B ↔ B := ⟨λ⟨h⟩ => by simpa [pT] using h, λh => .mk (by simpa [pT] using h)⟩
theorem BC {b:Bool} (h1:b=true->A) (h2:b=false->B):aN (.bool b) A B:=by cases b <;> simp [h1,h2]
@[simp] theorem bQ {p : Prop} [Decidable p] : aN (.bool (decide p)) A B ↔ (p -> A) /\ (¬ p -> B) := by by_cases hp : p <;> simp [hp]
@[simp] theorem He {p : Prop} [Decidable p] : aN (.bool (!decide p)) A B ↔ (¬ p -> A) /\ (p -> B) := by by_cases hp : p <;> simp [hp]
@[simp] theorem fP : ck (.bool true) true A B ↔ A := ⟨λ⟨h⟩ => by simpa [lE] using h, λh => .mk (by simpa [lE] using h)⟩
@[simp] theorem fW : ck (.bool true) false A B ↔ B := ⟨λ⟨h⟩ => by simpa [lE] using h, λh => .mk (by simpa [lE] using h)⟩
@[simp] theorem jV : ck (.bool false) true A B ↔ B := ⟨λ⟨h⟩ => by simpa [lE] using h, λh => .mk (by simpa [lE] using h)⟩
@[simp] theorem eL : ck (.bool false) false A B ↔ A := ⟨λ⟨h⟩ => by simpa [lE] using h, λh => .mk (by simpa [lE] using h)⟩
@[simp] theorem xv {b : Bool} : ck undef b A B ↔ B := ⟨λ⟨h⟩ => by simpa [lE, undef] using h, λh => .mk (by simpa [lE, undef] using h)⟩
@[simp] theorem dY (a b : Value) : bF (.bool true) a b = some a := rfl
@[simp] theorem dQ (a b : Value) : bF (.bool false) a b = some b := rfl
end aKy
abbrev I (n:Int):Value:=.int .i64 n
abbrev B (b:Bool):Value:=.bool b
abbrev cv (c:UInt8):Value:=.int .u8 (c.toNat:Int)
abbrev pt (i o:Nat):Value:=.pointer (some ⟨i,o,none⟩)
theorem wrap64 {n:Int} (h1: -9223372036854775808<=n) (h2:n<9223372036854775808):IntKind.wrap .i64 n=n:=by
 have e:IntKind.wrap .i64 n=if n%18446744073709551616>=9223372036854775808 then n%18446744073709551616-18446744073709551616 else n%18446744073709551616:=by
  simp [IntKind.wrap,IntKind.bits,IntKind.signed]
 rw [e]
 split <;> omega
theorem aqS {n:Int} (h1:0<=n) (h2:n<256):IntKind.wrap .u8 n=n:=by
 have e:IntKind.wrap .u8 n=n%256:=by
  simp [IntKind.wrap,IntKind.bits,IntKind.signed]
 rw [e]
 omega
section ints
variable (k : IntKind) (a b : Int)
@[simp] theorem cW : ai .lss (.int k a) (.int k b) = some (.bool (decide (a < b))) := by simp [ai, iX]
@[simp] theorem sP : ai .leq (.int k a) (.int k b) = some (.bool (decide (a <= b))) := by simp [ai, iX]
@[simp] theorem fQ : ai .gtr (.int k a) (.int k b) = some (.bool (decide (b < a))) := by simp [ai, iX]
@[simp] theorem nv : ai .geq (.int k a) (.int k b) = some (.bool (decide (b <= a))) := by simp [ai, iX]
@[simp] theorem hY : ai .eql (.int k a) (.int k b) = some (.bool (decide (a = b))) := by simp [ai, iX]
@[simp] theorem oA : ai .neq (.int k a) (.int k b) = some (.bool (!decide (a = b))) := by simp [ai, iX]
@[simp] theorem cL : ai .add (.int k a) (.int k b) = some (.int k (k.wrap (a + b))) := by simp [ai, iX]
@[simp] theorem gE : ai .sub (.int k a) (.int k b) = some (.int k (k.wrap (a - b))) := by simp [ai, iX]
@[simp] theorem xN : ai .mul (.int k a) (.int k b) = some (.int k (k.wrap (a * b))) := by simp [ai, iX]
@[simp] theorem oW (b : Bool) : gq .not (.bool b) = some (.bool !b) := rfl
@[simp] theorem aLT : gq .neg (.int k a) = some (.int k (k.wrap (0 - a))) := rfl
@[simp] theorem kZ (k' : IntKind) : dG k' (.int k a) = some (.int k' (k'.wrap a)) := rfl
@[simp] theorem Eu (n x y : Bool) : uQ n (.bool x) (.bool y) = some (.bool (if n then !(x == y) else x == y)) := rfl
@[simp] theorem eR (i : Nat) (vs : Array Value) : cD i (.tuple vs) = vs[i]? := rfl
end ints
section strings
variable (a b : List UInt8)
@[simp] theorem abP (l : List UInt8) : bytes ⟨l.toArray⟩ = l := avd l
@[simp] theorem lK : gK (S a) = some (I a.length) := by simp [gK, S]
@[simp] theorem H5 : ai .eql (S a) (S b) = some (.bool (decide (a = b))) := by simp [ai, AR, S]
@[simp] theorem abI : ai .neq (S a) (S b) = some (.bool (!decide (a = b))) := by simp [ai, AR, S]
theorem xM (h:a.length+b.length<=maxLen):ai .add (S a) (S b)=some (S (a++b)):=by
 simp only [ai,AR,S,abP,if_pos h]
theorem uT {i:Nat} (h:i<a.length) (k:IntKind):j6 (S a) (.int k (i:Int))=some (cv a[i]):=by simp [j6,S,h]
theorem MN {n:Nat} (h:n<=a.length) (k:IntKind):kQ (S a) none (some (.int k (n:Int)))=some (S (a.take n)):=by simp [kQ,S,tE,u9,h]
theorem Dc {n:Nat} (h:n<=a.length) (k:IntKind):kQ (S a) (some (.int k (n:Int))) none=some (S (a.drop n)):=by simp [kQ,S,tE,u9,h]
end strings
theorem aD1 {σ:Type} {init:List Value} {h:ae} {Q:(List Value->ae->Prop)->List Value->ae->Prop} (enc:σ->List Value) (hp:σ->ae) (J:σ->Prop) (μ:σ->Nat) (s0:σ)
  (e0:enc s0=init) (eh:hp s0=h) (j0:J s0) (hr:∀s,J s->Q (λys hy=>∃s',enc s'=ys/\hp s'=hy/\J s'/\μ s'<μ s) (enc s) (hp s)):cO init h Q:=by
 refine .mk ?_
 have least:∀ys hy,(∃s,enc s=ys/\hp s=hy/\J s)->∃m,(∃s,enc s=ys/\hp s=hy/\J s/\μ s=m)/\∀s,enc s=ys->hp s=hy->J s->m<=μ s:=by
  rintro ys hy ⟨s,h1,h2,h3⟩
  have key:∀n,(∃s,enc s=ys/\hp s=hy/\J s/\μ s=n)->∃m,(∃s,enc s=ys/\hp s=hy/\J s/\μ s=m)/\∀s,enc s=ys->hp s=hy->J s->m<=μ s:=by
   intro n
   induction n using Nat.strongRecOn with
   | _ n ih=>
    intro hn
    by_cases aF:∃s,enc s=ys/\hp s=hy/\J s/\μ s<n
    ·obtain ⟨s',a,b,c,d⟩:=aF
     exact ih (μ s') d ⟨s',a,b,c,rfl⟩
    ·exact ⟨n,hn,λs' a b c=>le_of_not_lt λd=>aF ⟨s',a,b,c,d⟩⟩
  exact key _ ⟨s,h1,h2,h3,rfl⟩
 classical
 refine ⟨λys hy=>∃s,enc s=ys/\hp s=hy/\J s,λys hy=>if hJ:∃s,enc s=ys/\hp s=hy/\J s then Classical.choose (least ys hy hJ) else 0,⟨s0,e0,eh,j0⟩,?_⟩
 rintro xs hx hJ
 have Fe:=choose_spec (least xs hx hJ)
 simp only [dif_pos hJ]
 generalize Classical.choose (least xs hx hJ)=m at Fe
 obtain ⟨⟨s,a,b,c,d⟩,_⟩:=Fe
 have:=hr s c
 rw [a,b] at this
 have he:(λ(ys:List Value) (hy:ae)=>(∃s,enc s=ys/\hp s=hy/\J s)/\(if hJ:∃s,enc s=ys/\hp s=hy/\J s then Classical.choose (least ys hy hJ) else 0)<m)=
   λys hy=>∃s',enc s'=ys/\hp s'=hy/\J s'/\μ s'<μ s:=by
  funext ys hy
  apply propext
  constructor
  ·rintro ⟨Ci,aF⟩
   rw [dif_pos Ci] at aF
   obtain ⟨⟨s',a',b',c',d'⟩,_⟩:=choose_spec (least ys hy Ci)
   exact ⟨s',a',b',c',by rw [d',d];exact aF⟩
  ·rintro ⟨s',a',b',c',d'⟩
   refine ⟨⟨s',a',b',c'⟩,?_⟩
   rw [dif_pos ⟨s',a',b',c'⟩]
   have:=(choose_spec (least ys hy ⟨s',a',b',c'⟩)).2 s' a' b' c'
   omega
 rw [he]
 exact this
theorem dF {σ:Type} {init:List Value} {h:ae} {Q:(List Value->ae->Prop)->List Value->ae->Prop} (enc:σ->List Value) (hp:σ->ae) (J:σ->Prop) (μ:σ->Nat) (s0:σ)
  (e0:enc s0=init) (eh:hp s0=h) (j0:J s0) (hr:∀s,J s->∀L:List Value->ae->Prop,(∀s',J s'->μ s'<μ s->L (enc s') (hp s'))->Q L (enc s) (hp s)):cO init h Q:=
 aD1 enc hp J μ s0 e0 eh j0 λs hs=>hr s hs _ λs' h1 h2=>⟨s',rfl,rfl,h1,h2⟩
def EX (h h':ae):Prop:=h.length<=h'.length/\∀i,i<h.length->h'[i]?=h[i]?
theorem EX.refl (h:ae):EX h h:=⟨le_refl _,λ_ _=>rfl⟩
theorem EX.trans {a b c:ae} (h:EX a b) (k:EX b c):EX a c:=⟨Nat.le_trans h.1 k.1,λi hi=>(k.2 i (Nat.lt_of_lt_of_le hi h.1)).trans (h.2 i hi)⟩
theorem EX.append (h g:ae):EX h (h++g):=⟨by simp,λi hi=>getElem?_append_left hi⟩
theorem EX.push {a h:ae} (k:EX a h) (g:ae):EX a (h++g):=k.trans (.append h g)
theorem EX.set {a h:ae} (k:EX a h) {i:Nat} (hi:a.length<=i) (o:aq):EX a (h.set i o):=⟨by simpa using k.1,λj hj=>by rw [getElem?_set_ne (by omega)];exact k.2 j hj⟩
theorem EX.get {a h:ae} (k:EX a h) {i:Nat} {o:aq} (hi:a[i]?=some o):h[i]?=some o:=by rw [k.2 i (bz hi).1];exact hi
theorem EX.cells {a h:ae} (k:EX a h) {i:Nat} {xs:List Value} (hi:aW a i=some xs):aW h i=some xs:=by
 unfold aW at hi⊢
 have aF:i<a.length:=by
  apply byContradiction
  intro hc
  rw [getElem?_eq_none (le_of_not_lt hc)] at hi
  simp at hi
 rw [k.2 i aF]
 exact hi
def gA:Value->Bool
 | .bool _ | .int .. | .string _ | .nilFunc | .nilIface=>true
 | .pointer none | .map none=>true
 | .slice none 0 0=>true
 | _=>false
theorem gA.rel {ρ av:aO} {v v':Value} (h:gA v=true) (hv:aC ρ v v'):aC av v v':=by
 unfold gA at h
 split at h
 ·cases hv;exact .bool _
 ·cases hv;exact .int _ _
 ·cases hv;exact .string _
 ·cases hv;exact .nilFunc
 ·cases hv;exact .nilIface
 ·cases hv;exact .vf
 ·cases hv;exact .ve
 ·cases hv;exact .qo
 ·cases h
def xG (V:Nat->Value):Prop:=∀(ρ av:aO) (i j:Nat) (v':Value),av j=ρ i->aC ρ (V i) v'->aC av (V j) v'
theorem xG.gA {v:Value} (h:gA v=true):xG λ_=>v:=λ_ _ _ _ _ _ hv=>gA.rel h hv
theorem xG.sl (e:TypeId) (o n:Nat):xG λi=>sl e i o n:=by
 intro ρ av i j v' he hv
 cases hv with
 | slice hr a b c d=>exact .slice (by rw [he];exact hr) a b c d
section gc
variable {P : Program} {F : FuncId} {args : List Value} {h : ae}
def wZ:aq->Bool
 | .ro _ xs | .arr _ xs=>xs.all gA
 | .smap es=>es.all λp=>gA p.2
 | .me _ es=>es.all λp=>gA p.2
 | .cw _ _ es=>es.all λp=>gA p.2.2
 | _=>false
theorem wZ.rel {ρ av:aO} {w:World} {r:RI} {o:aq} (hp:wZ o=true) (h:mf ρ w r o):mf av w r o:=by
 have cells:∀{c:Array Value} {sh:Nat} {xs:List Value},xs.all gA=true->gR ρ c sh xs->gR av c sh xs:=by
  intro c sh xs hs hc j x hj
  obtain ⟨h1,y,hy,hr⟩:=hc j x hj
  rw [all_eq_true] at hs
  exact ⟨h1,y,hy,gA.rel (hs x (mem_of_getElem? hj)) hr⟩
 cases o with
 | ro e xs=>obtain ⟨h1,c,t,fr,h2,h3,h4⟩:=h;exact ⟨h1,c,t,fr,h2,h3,cells hp h4⟩
 | arr e xs=>obtain ⟨h1,h0,c,h2,h3,h4⟩:=h;exact ⟨h1,h0,c,h2,h3,cells hp h4⟩
 | smap es=>
  obtain ⟨aQ,clock,h1,h2,h3⟩:=h
  refine ⟨aQ,clock,h1,h2,λj k v hj=>?_⟩
  obtain ⟨en,e1,e2,e3⟩:=h3 j k v hj
  simp only [wZ,all_eq_true] at hp
  exact ⟨en,e1,e2,gA.rel (hp (k,v) (mem_of_getElem? hj)) e3⟩
 | me kd es=>
  obtain ⟨aQ,clock,h1,h2,h3⟩:=h
  refine ⟨aQ,clock,h1,h2,λj k v hj=>?_⟩
  obtain ⟨en,e1,e2,e3⟩:=h3 j k v hj
  simp only [wZ,all_eq_true] at hp
  exact ⟨en,e1,e2,gA.rel (hp (k,v) (mem_of_getElem? hj)) e3⟩
 | cw g c es=>
  obtain ⟨h0,aQ,h1,h2,h3⟩:=h
  refine ⟨h0,aQ,h1,h2,λj b k v hj=>?_⟩
  obtain ⟨e0,en,e1,e2,zT,e3⟩:=h3 j b k v hj
  simp only [wZ,all_eq_true] at hp
  exact ⟨e0,en,e1,e2,zT,gA.rel (hp (b,k,v) (mem_of_getElem? hj)) e3⟩
 | iter m s n l=>cases hp
 | loop c ls vs=>cases hp
 | dead=>cases hp
theorem ayS {K:Value->ae->Prop} {v:Value} {h':ae} (hV:xG λ_=>v) (hc:ue P F args [] v h') (ha:args.all gA=true) (hk:K v h):ak P F args h K:=by
 rw [uc]
 refine ⟨v,h,?_,hk⟩
 intro ρ args' w hv H
 have Fl:∀{xs ys:List Value},xs.all gA=true->bR ρ xs ys->bR (λ_=>none) xs ys:=by
  intro xs ys hs hr
  induction hr with
  | nil=>exact .nil
  | cons a _ ih=>simp only [List.all_cons,and_eq_true] at hs;exact .cons (gA.rel hs.1 a) (ih hs.2)
 have H0:a9 P (λ_=>none) [] w:=⟨λi r hi=>(by cases hi),λi j r s hi=>(by cases hi),λi r hi=>(by cases hi)⟩
 refine (hc _ args' w (Fl ha hv) H0).mono ?_
 rintro e w' ⟨v',av,rfl,kD,H',T⟩
 have eX:∀b,b<w.heap.size->w'.heap[b]?=w.heap[b]?:=λb hb=>T.gZ b hb λj s hj=>(by cases hj)
 refine ⟨v',ρ,rfl,hV av ρ h'.length h.length v' (by rw [H.none,H'.none]) kD,⟨?_,H.inj,H.bm⟩,?_⟩
 ·intro k r hr
  obtain ⟨o,ho,nV⟩:=H.obj k r hr
  refine ⟨o,ho,?_⟩
  by_cases hd:o=.dead
  ·subst hd;trivial
  ·exact nV.mono (.refl _) (eX _ (CV H hr ⟨o,ho,hd⟩))
 ·exact {
   ext:=.refl _
   len:=le_refl _
   jY:=λk r hr=>H.lt hr
   kinds:=λ_ _ h=>h
   fresh:=λk r h1 h2=>by rw [h1] at h2;cases h2
   iR:=T.iR
   gZ:=λb hb _=>eX b hb
   os:=T.os
   tape:=T.tape
   output:=T.output }
end gc
end
section
open Go.ChangeShapes Go.WideShapes Go.ChangeAt Go.RowKit
def mh (h:ae):Prop:=∀i,¬cF h i
section
variable {P : Program} {W : World} {ρ : aO} {h : ae}
theorem a9.start (P:Program) (W:World):a9 P (λ_=>Option.none) [] W:=⟨λi r hi=>(by cases hi),λi j r s hi=>(by cases hi),λi r hi=>(by cases hi)⟩
theorem mh.start:mh []:=λi hm=>by unfold cF at hm;simp at hm
theorem a9.HQ (H:a9 P ρ h W) (hr:mh h) {r:RI} (he:r.bm=P.cellsOf r.elem) {o:aq} (dV:o=.dead∨∃e xs,o=.ro e xs) (ho:mf (ρ.add h.length r) W r o):
  a9 P (ρ.add h.length r) (h++[o]) W/\mh (h++[o])/\ρ.le (ρ.add h.length r):=by
 have jE:mh (h++[o]):=by
  intro i hm
  unfold cF at hm
  by_cases hi:i<h.length
  ·rw [getElem?_append_left hi] at hm
   exact hr i hm
  ·by_cases he:i=h.length
   ·subst he
    have e:(h++[o])[h.length]?=some o:=by simp
    rw [e] at hm
    rcases dV with rfl | ⟨_,_,rfl⟩ <;> rcases hm with ⟨_,_,h1⟩ | ⟨_,h1⟩ | ⟨_,_,_,h1⟩ | ⟨_,_,h1⟩ | ⟨_,_,_,h1⟩ | ⟨_,_,_,_,h1⟩ <;> cases h1
   ·rw [getElem?_eq_none (by simp;omega)] at hm
    rcases hm with ⟨_,_,h1⟩ | ⟨_,h1⟩ | ⟨_,_,_,h1⟩ | ⟨_,_,h1⟩ | ⟨_,_,_,h1⟩ | ⟨_,_,_,_,h1⟩ <;> cases h1
 refine ⟨⟨?_,λi j r s _ _ _ hm=>absurd hm (jE i),?_⟩,jE,aO.uY H.none⟩
 ·intro i s hi
  unfold aO.add at hi
  split at hi
  ·rename_i e
   subst e
   cases hi
   exact ⟨o,by simp,ho⟩
  ·obtain ⟨o',h1,h2⟩:=H.obj i s hi
   exact ⟨o',by rw [getElem?_append_left (H.lt hi)];exact h1,h2.mono (aO.uY H.none) rfl⟩
 ·intro i s hi
  unfold aO.add at hi
  split at hi
  ·cases hi;exact he
  ·exact H.bm i s hi
theorem gA.self {v:Value} (hs:gA v=true) (ρ:aO):aC ρ v v:=by
 unfold gA at hs
 split at hs
 ·exact .bool _
 ·exact .int _ _
 ·exact .string _
 ·exact .nilFunc
 ·exact .nilIface
 ·exact .vf
 ·exact .ve
 ·exact .qo
 ·cases hs
theorem gA.cell {v:Value} (hs:gA v=true):gF v=true:=by
 unfold gA at hs
 split at hs <;> first | rfl | cases hs
variable {H : Type} {enc : TypeId × Value -> H}
theorem addr_eq {a:Addr} (hs:a.spot=none) (n:Nat):a.add n=⟨a.block,a.off+n,none⟩:=by
 obtain ⟨b,o,s⟩:=a
 simp only at hs
 subst hs
 unfold Addr.add
 split
 ·rename_i h;subst h;rfl
 ·rfl
theorem aAc {t e:TypeId} (ht:P.underlying t=some (.slice e)) (iN:P.cellsOf e≠0)
  (flat:∀n cs y,DataW.trod enc P W 0 (λ_=>true) true n e cs=some y->cs.length=P.cellsOf e/\∀x∈cs,gA x=true)
  {fuel:Nat} {v:Value} {x:DataW H×List MemPlace} (hd:DataW.trod enc P W 0 (λ_=>true) true fuel t [v]=some x) (aI:∀(a:Addr) (len cap:Nat),v=.slice (some a) len cap->a.spot=none) (HR:a9 P ρ h W) (jE:mh h):
  ∃(av:aO) (g:ae) (v':Value) (n:Nat) (xs:List Value),ρ.le av/\a9 P av (h++g) W/\mh (h++g)/\aC av v' v/\gF v'=true/\
   ((v'=.slice none 0 0/\n=0)∨∃i,v'=sl e i 0 n/\(n=0∨aW (h++g) i=some xs))/\xs.length=n*P.cellsOf e/\(∀y∈xs,gA y=true)/\
   ∀i,i<n->∃m y,DataW.trod enc P W 0 (λ_=>true) true m e ((xs.drop (i*P.cellsOf e)).take (P.cellsOf e))=some y:=by
 rcases DataW.trod_slice ht hd with ⟨h1,_⟩ | ⟨a,len,cap,agi,rest,n,_,h1,_,hb,hl,hm,hlen,ER,wC,_⟩
 ·obtain rfl:v=.slice none 0 0:=by simpa using h1
  exact ⟨ρ,[],.slice none 0 0,0,[],.refl _,by simpa using HR,by simpa using jE,.qo,rfl,.inl ⟨rfl,rfl⟩,by simp,by simp,λi hi=>by omega⟩
 ·obtain rfl:v=.slice (some a) len cap:=by simpa using h1
  have qY:a.spot=none:=aI a len cap rfl
  obtain ⟨KF,hr⟩:=wC rfl
  -- every aK5 cells lie there
  have each:∀i,i<cap->∃cs y,W.cells? 0 (a.add (i*P.cellsOf e)) (P.cellsOf e)=some cs/\DataW.trod enc P W 0 (λ_=>true) true n e cs=some y:=by
   intro i hi
   have jZ:∃y,(W.cells? 0 (a.add (i*P.cellsOf e)) (P.cellsOf e)).bind (DataW.trod enc P W 0 (λ_=>true) true n e)=some y:=by
    by_cases bn:i<len
    ·rw [ER i bn,getElem?_eq_getElem (by omega)]
     exact ⟨_,rfl⟩
    ·have:=hr (i-len) (by omega)
     rw [show len+(i-len)=i by omega] at this
     rw [this,getElem?_eq_getElem (by omega)]
     exact ⟨_,rfl⟩
   obtain ⟨y,hy⟩:=jZ
   rw [Option.bind_eq_some_iff] at hy
   obtain ⟨cs,h1,h2⟩:=hy
   exact ⟨cs,y,h1,h2⟩
  by_cases sZ:cap=0
  ·subst sZ
   obtain rfl:len=0:=by omega
   obtain ⟨H',yu,hle⟩:=HR.HQ jE (r:=⟨a.block,a.off,e,P.cellsOf e,a.off⟩) rfl (.inl rfl) trivial
   refine ⟨_,[.dead],sl e h.length 0 0,0,[],hle,H',yu,?_,rfl,.inr ⟨_,rfl,.inl rfl⟩,by simp,by simp,λi hi=>by omega⟩
   obtain ⟨ab,ao,sO⟩:=a
   simp only at qY
   subst qY
   exact aC.slice (ρ:=ρ.add h.length ⟨ab,ao,e,P.cellsOf e,ao⟩) (i:=h.length) (o:=0) (n:=0) (o':=ao) (c':=0) (r:=⟨ab,ao,e,P.cellsOf e,ao⟩) (by simp [aO.add]) (.inl rfl) (le_refl _) (by unfold maxLen;omega) (by simp)
  ·have yk:0<P.cellsOf e:=by omega
   -- gB block
   have SQ:∃c tt fr,W.heap[a.block]?=some (.cells c tt fr):=by
    obtain ⟨cs,y,h1,h2⟩:=each 0 (by omega)
    obtain ⟨_,g2,g3⟩:=World.cells?_some h1
    have:=g3 0 yk
    rw [Nat.zero_mul,addr_eq qY 0,addr_eq rfl 0,getElem?_eq_getElem (by omega)] at this
    unfold World.cell? at this
    split at this
    ·rename_i c tt fr hh;exact ⟨c,tt,fr,hh⟩
    ·cases this
   obtain ⟨c,tt,fr,pX⟩:=SQ
   have get:∀i cs,W.cells? 0 (a.add (i*P.cellsOf e)) (P.cellsOf e)=some cs->∀j,j<P.cellsOf e->c[a.off+(i*P.cellsOf e+j)]?=cs[j]?:=by
    intro i cs h1 j hj
    obtain ⟨_,g2,g3⟩:=World.cells?_some h1
    have:=g3 j hj
    rw [addr_eq qY,addr_eq rfl] at this
    simp only [World.cell?,pX] at this
    simpa [Nat.add_assoc] using this
   have here:∀j,j<cap*P.cellsOf e->∃y,c[a.off+j]?=some y/\gA y=true:=by
    intro j hj
    have hi:j / P.cellsOf e<cap:=(Nat.div_lt_iff_lt_mul yk).2 hj
    obtain ⟨cs,y,h1,h2⟩:=each _ hi
    obtain ⟨f1,f2⟩:=flat n cs y h2
    have pF:j%P.cellsOf e<P.cellsOf e:=Nat.mod_lt _ yk
    have:=get _ cs h1 (j%P.cellsOf e) pF
    rw [show j / P.cellsOf e*P.cellsOf e+j%P.cellsOf e=j by rw [Nat.mul_comm];exact Nat.div_add_mod j _] at this
    rw [this,getElem?_eq_getElem (by omega)]
    exact ⟨_,rfl,f2 _ (List.getElem_mem _)⟩
   let xs:=(List.range (len*P.cellsOf e)).map λj=>c.getD (a.off+j) Go.undef
   have iP:xs.length=len*P.cellsOf e:=by simp [xs]
   have hlc:len*P.cellsOf e<=cap*P.cellsOf e:=Nat.mul_le_mul_right _ hl
   have TY:∀j,j<len*P.cellsOf e->xs[j]?=c[a.off+j]?:=by
    intro j hj
    obtain ⟨y,h1,_⟩:=here j (by omega)
    simp [xs,hj,h1]
   have qh:∀y∈xs,gA y=true:=by
    intro y hy
    obtain ⟨j,hj⟩:=List.getElem?_of_mem hy
    have aF:j<len*P.cellsOf e:=by have:=(bz hj).1;omega
    obtain ⟨z,h1,h2⟩:=here j (by omega)
    rw [TY j aF,h1] at hj
    cases hj
    exact h2
   have TO:a.off+cap*P.cellsOf e<=c.size:=by
    have aLu:0<cap*P.cellsOf e:=Nat.mul_pos (by omega) yk
    obtain ⟨y,h1,_⟩:=here (cap*P.cellsOf e-1) (by omega)
    have:=(Array.getElem?_eq_some_iff.1 h1).1
    omega
   obtain ⟨H',yu,hle⟩:=HR.HQ jE (r:=⟨a.block,a.off,e,P.cellsOf e,c.size⟩) rfl (.inr ⟨e,xs,rfl⟩) ⟨rfl,c,tt,fr,pX,rfl,λj y hj=>by
    have aF:j<len*P.cellsOf e:=by have:=(bz hj).1;omega
    rw [TY j aF] at hj
    obtain ⟨z,h1,h2⟩:=here j (by omega)
    rw [h1] at hj
    cases hj
    exact ⟨gA.cell h2,_,h1,gA.self h2 _⟩⟩
   refine ⟨_,[.ro e xs],sl e h.length 0 len,len,xs,hle,H',yu,?_,rfl,.inr ⟨_,rfl,.inr (by simp [aW])⟩,iP,qh,?_⟩
   ·obtain ⟨ab,ao,sO⟩:=a
    simp only at qY
    subst qY
    exact aC.slice (ρ:=ρ.add h.length ⟨ab,ao,e,P.cellsOf e,c.size⟩) (i:=h.length) (o:=0) (n:=len) (o':=ao) (c':=cap) (r:=⟨ab,ao,e,P.cellsOf e,c.size⟩) (by simp [aO.add]) (.inl rfl) hl hm TO
   ·intro i hi
    obtain ⟨cs,y,h1,h2⟩:=each i (by omega)
    refine ⟨n,y,?_⟩
    have gJ:=(flat n cs y h2).1
    have Tq:(i+1)*P.cellsOf e<=len*P.cellsOf e:=Nat.mul_le_mul_right _ hi
    rw [Nat.add_mul,Nat.one_mul] at Tq
    have:(xs.drop (i*P.cellsOf e)).take (P.cellsOf e)=cs:=by
     apply List.ext_getElem?
     intro j
     rw [List.getElem?_take]
     by_cases hj:j<P.cellsOf e
     ·rw [if_pos hj,List.getElem?_drop,TY _ (by omega),get i cs h1 j hj]
     ·rw [if_neg hj,getElem?_eq_none (by omega)]
    rw [this]
    exact h2
theorem aqH (hl:laidOutB P=true) {W':World} (hb:Below W.heap.size W W'):∀{ts:List TypeId} {vs:List Value} {ds:List (DataW H)} {p:List MemPlace},(∀t∈ts,P.readableRec t=true/\t<P.types.size)->
  DataW.TrodAll enc P W 0 (λ_=>true) true ts vs ds p->(∀x∈p,x.block<W.heap.size)->DataW.TrodAll enc P W' 0 (λb=>decide (b<W.heap.size)) true ts vs ds p
 | [],vs,ds,p,_,h,_=>by
  obtain ⟨rfl,rfl,rfl⟩:=trodAll_nil h
  exact trodAll_mk0
 | t::ts,vs,ds,p,hr,h,aF=>by
  obtain ⟨v,km,d,ds',a,b,rfl,rfl,rfl,h1,h2⟩:=trodAll_cons h
  exact trodAll_cons_mk (Below.trod hl (hr t (by simp)).1 (hr t (by simp)).2 h1 hb λx hx=>aF x (by simp [hx]))
   (aqH hl hb (λt ht=>hr t (by simp [ht])) h2 λx hx=>aF x (by simp [hx]))
theorem aEL (hl:laidOutB P=true) {f:Func} {s:ChangeSpec} {t4:TypeId} {W':World} {args:Array Value} {ds gs:List (DataW H)} {before:List MemPlace} (hW:DataW.Whole enc P f.params.toList s.vars false W args.toList ds gs before)
  (hv:s.vars=[]) (ht4:P.underlying t4=some .bool) (hr:f.resultTypes=#[t4]) (hfn:∀SH,SH=[]->s.fn H (ds++SH)={ results:=[.lit (.bool true)],args:=ds })
  (aB0:∀t∈f.params.toList,P.readableRec t=true/\t<P.types.size) (hb:Below W.heap.size W W'):s.post enc P f false true false false W args (.bool true) W':=by
 have Ka:=hW
 obtain ⟨p,q,hA,hV,rfl,_,_⟩:=hW
 rw [hv] at hV
 obtain ⟨rfl,rfl⟩:=trodVars_none hV
 have aF:∀x∈p,x.block<W.heap.size:=λx hx=>Ka.lt x (by simp [hx])
 have e:=hfn [] rfl
 refine ⟨ds,[],p++[],[],p,[],Ka,?_,?_,?_,hb.frame _,λh=>by cases h⟩
 ·rw [e,hr]
  exact trodAll_mk1 (shut_bool ht4 true)
 ·rw [e]
  exact aqH hl hb aB0 hA aF
 ·rw [e,hv]
  rfl
end
end
section
theorem Bl (k:IntKind) (a b:Nat) (hb:b≠0):ai .rem (.int k (a:Int)) (.int k (b:Int))=some (.int k ((a%b:Nat):Int)):=by
 have h:¬((b:Int)=0):=by omega
 simp only [ai,iX,if_true,if_neg h]
 congr 2
structure NS (h:ae) (v:Value) (k:IntKind) (ns:List Int):Prop where
 len:bk v=some (I ns.length)
 get:∀i (hi:i<ns.length),∃b o,aZ 1 v (I i)=some (pt b o)/\af false 1 h (pt b o)=some (.int k ns[i])
 le:ns.length<=maxLen
theorem aDY {h h':ae} (k:EX h h') {agg:Bool} {n:Nat} {a v:Value} (hl:af agg n h a=some v):af agg n h' a=some v:=by
 unfold af at hl⊢
 split at hl
 ·rename_i i o
  cases hc:aW h i with
  | none=>rw [hc] at hl;cases hl
  | some xs=>rw [hc] at hl;rw [k.cells hc];exact hl
 ·cases hl
theorem NS.mono {h h':ae} {v:Value} {k:IntKind} {ns:List Int} (e:EX h h') (p:NS h v k ns):NS h' v k ns:=
 ⟨p.len,λj hj=>let ⟨i,o,a,b⟩:=p.get j hj;⟨i,o,a,aDY e b⟩,p.le⟩
theorem NS.nil (h:ae) (k:IntKind):NS h (.slice none 0 0) k []:=⟨rfl,λi hi=>by simp at hi,by simp⟩
theorem NS.sl {h:ae} {e:TypeId} {i:Nat} {k:IntKind} {ns:List Int} (hc:ns=[]∨aW h i=some (ns.map (Value.int k))) (hl:ns.length<=maxLen):NS h (sl e i 0 ns.length) k ns:=by
 refine ⟨rfl,λj hj=>⟨i,j,?_,?_⟩,hl⟩
 ·have:(0:Int)<=(j:Int)/\(j:Int)<(ns.length:Int):=by omega
  simp [Go.Sim.sl,aZ,this]
 ·have hc:=hc.resolve_left (by rintro rfl;simp at hj)
  simp [af,hc,cP,hj]
section
open Go.ChangeShapes
variable {P : Program} {W : World} {ρ : aO} {h : ae} {H : Type} {enc : TypeId × Value -> H}
end
end
section
def Di (P:Program) (o:iG) (f:Nat->Value) (h:ae) (K:Value->ae->Prop):Prop:=
 match o with
 | .e (.next it)=>∃l,Bc h (ev f it)=some l/\∀p∈l,K p.1 p.2
 | o=>dE P o f h K
def Cf (P:Program):List jM->((Nat->Value)->ae->Prop)->(Nat->Value)->ae->Prop
 | [],K,f,h=>K f h
 | o::os,K,f,h=>Di P o.op f h λv h'=>Cf P os K (dS f o.dst v) h'
def Lr (P:Program) (g:Option (Nat×Bool)) (l:List jM) (K:(Nat->Value)->ae->Prop) (f:Nat->Value) (h:ae):Prop:=
 match g with
 | none=>Cf P l K f h
 | some (s,b)=>tM P (some (s,b)) l K f h
noncomputable def mI (P:Program) (c:fG):ar->(Nat->Value)->ae->Prop:=
 fG.rec (motive:=λ_=>ar->(Nat->Value)->ae->Prop)
  (λK f h=>K .normal f h)
  (λl K f h=>oF P l 0 [] [] (K .normal) f h)
  (λg l K f h=>Lr P g l (K .normal) f h)
  (λ_ _ ia ib K f h=>ia (aH (ib K) K) f h)
  (λls _ ic K f h=>B6 (ic K) ls (ls.map f) h)
  (λc _ _ ia ib K f h=>pT (ev f c) (ia K f h) (ib K f h))
  (λid _ ic K f h=>ic (bH id K) f h)
  (λks ls _ ic K f h=>A3 (ls.map f) h λL xs hx=>ic (aH (λf' aX=>ks.map f'=ks.map f/\L (ls.map f') aX) K) (kS (ks++ls) (ks.map f++xs)) hx)
  (λid K f h=>K (.exit id) f h)
  (λK f h=>K .ret f h)
  (λg ls c K f h=>vk P (ev f g) ls (ls.map f) c h (K .normal f)) c
section
variable {P : Program} {w : World} {ρ : aO} {h : ae}
theorem aEj (H:a9 P ρ h w) {it Fx:Value} {l:List (Value×ae)} (hn:Bc h it=some l) (hv:aC ρ it Fx) (ty:TypeId):
  ∃p∈l,∃v' w',(Instr.next Fx false ty).run P w=.ok v' w'/\aC ρ p.1 v'/\a9 P ρ p.2 w'/\Tr ρ h w ρ p.2 w':=by
 unfold Bc at hn
 split at hn
 ·rename_i j
  split at hn
  ·rename_i i kT seen last th
   split at hn
   ·rename_i g c es iM
    split at hn
    ·cases hn
    rename_i jP
    simp only [Option.some.injEq] at hn
    cases hv with
    | ptr hr=>
     rename_i r
     obtain ⟨o,ho,nV⟩:=H.obj j r hr
     rw [th] at ho
     cases ho
     obtain ⟨yw,rm,KG,hb⟩:=nV
     obtain ⟨aQ,hm,E⟩:=H.B8 KG iM
     rw [yw]
     -- gB entries,one by one
     have Tp:aQ.toList.map (λe=>e.born)=es.map λe=>e.1:=by
      apply List.ext_getElem?
      intro q
      simp only [List.getElem?_map]
      by_cases hq:q<es.length
      ·have he:=getElem?_eq_getElem hq
       generalize es[q]=x at he
       obtain ⟨b,k,v⟩:=x
       obtain ⟨_,en,g2,g3,g4,g5⟩:=E.get q b k v he
       rw [he,getElem?_toList,g2]
       simp [g4]
      ·have h1:aQ.toList[q]?=none:=getElem?_eq_none (by rw [Array.length_toList,E.size];omega)
       rw [h1,getElem?_eq_none (by omega)];rfl
     have hz:∀en∈aQ.toList,∃e∈es,e.1=en.born/\e.2.1=en.key/\aC ρ e.2.2 en.val:=by
      intro en Cr
      obtain ⟨q,hq,e'⟩:=List.mem_iff_getElem.1 Cr
      have:aQ[q]?=some en:=by rw [<-getElem?_toList,getElem?_eq_getElem hq,e']
      obtain ⟨v,q1,_,q3⟩:=E.inv this
      exact ⟨_,mem_of_getElem? q1,rfl,rfl,q3⟩
     have sg:∀e∈es,∃en∈aQ.toList,e.1=en.born:=by
      intro e he
      have:e.1∈es.map λe=>e.1:=mem_map.2 ⟨e,he,rfl⟩
      rw [<-Tp] at this
      obtain ⟨en,h1,h2⟩:=mem_map.1 this
      exact ⟨en,h1,h2.symm⟩
     -- sD gB aLE aLU
     let left:=aQ.filter λe=> !(seen.toArray.contains e.born)
     let old:=left.filter λe=>decide (e.born<kT)
     let new:=left.filter λe=>decide (e.born>=kT)
     let pS:Array (Option MapEntry):=(if old.isEmpty then #[none] else #[])++(old++new).map some
     have pW:(!seen.toArray.isEmpty&& !aQ.isEmpty&&aQ.all λe=>decide (e.born>=last))=false:=by
      rw [Bool.eq_false_iff]
      intro hx
      apply jP
      simp only [and_eq_true] at hx⊢
      obtain ⟨⟨x1,x2⟩,x3⟩:=hx
      refine ⟨⟨by simpa using x1,?_⟩,?_⟩
      ·have:aQ.size≠0:=by simpa [Array.isEmpty] using x2
       rw [E.size] at this
       simpa [List.isEmpty_iff] using this
      ·rw [all_eq_true]
       intro e he
       obtain ⟨en,h1,h2⟩:=sg e he
       rw [Array.all_eq_true'] at x3
       have:=x3 en (by simpa using h1)
       rw [h2]
       exact this
     have iN:0<pS.size:=by
      simp only [pS]
      by_cases ho:old.isEmpty=true
      ·rw [if_pos ho];simp;omega
      ·rw [if_neg ho]
       have:old.size≠0:=by simpa [Array.isEmpty] using ho
       simp;omega
     have cA:(getObj r.bC).run P w=.ok (.mapIter (some rm.bC) kT seen.toArray last) w:=by simp [getObj,Sem.run,hb]
     have S7:(getObj rm.bC).run P w=.ok (.map aQ c) w:=by simp [getObj,Sem.run,hm]
     obtain ⟨q,w1,hq,Am,TV,hT1⟩:∃q w1,q<pS.size/\(choose (.mapNext pS.size)).run P w=.ok q w1/\(w1.heap=w.heap/\a9 P ρ h w1)/\Tr ρ h w ρ h w1:=by
      by_cases hfo:(Question.mapNext pS.size).forced=true
      ·exact ⟨0,w,iN,by simp [choose,Sem.run,hfo],⟨rfl,H⟩,Tr.refl H⟩
      ·exact ⟨(w.tape w.drawn (.mapNext pS.size))%pS.size,{ w with drawn:=w.drawn+1 },Nat.mod_lt _ iN,by simp [choose,Sem.run,hfo,Question.cut],⟨rfl,H.drew _⟩,Tr.drew H _⟩
     have oM:(es.filter λe=> !seen.contains e.1).filter (λe=>decide (e.1<kT))=[]↔old.isEmpty=true:=by
      constructor
      ·intro h0
       simp only [old,left]
       rw [Array.isEmpty_iff_size_eq_zero]
       apply byContradiction
       intro bt
       obtain ⟨en,Cr⟩:∃en,en∈(Array.filter (λe=>decide (e.born<kT)) (Array.filter (λe=> !(seen.toArray.contains e.born)) aQ)):=⟨_,Array.getElem_mem (i:=0) (by omega)⟩
       rw [Array.mem_filter,Array.mem_filter] at Cr
       obtain ⟨⟨e1,e2⟩,e3⟩:=Cr
       obtain ⟨e,he,g1,_,_⟩:=hz en (by simpa using e1)
       have:e∈(es.filter λe=> !seen.contains e.1).filter (λe=>decide (e.1<kT)):=by
        rw [mem_filter,mem_filter,g1]
        exact ⟨⟨he,by simpa using e2⟩,e3⟩
       rw [h0] at this
       cases this
      ·intro h0
       rw [Array.isEmpty_iff_size_eq_zero] at h0
       rw [List.filter_eq_nil_iff]
       intro e he aF
       rw [mem_filter] at he
       obtain ⟨en,h1,h2⟩:=sg e he.1
       have:en∈old:=by
        simp only [old,left]
        rw [Array.mem_filter,Array.mem_filter,<-h2]
        exact ⟨⟨by simpa using h1,by simpa using he.2⟩,aF⟩
       rw [Array.eq_empty_of_size_eq_zero h0] at this
       simp at this
     have Ke:w1.heap[r.bC]?=some (.mapIter (some rm.bC) kT seen.toArray last):=by rw [TV.1];exact hb
     obtain ⟨cq,Kg⟩:∃cq,pS[q]?=some cq:=⟨_,Array.getElem?_eq_getElem hq⟩
     have gW:∀{v' w'},(match pS[q]? with
       | some (some e)=>(do setObj r.bC (.mapIter (some rm.bC) kT (seen.toArray.push e.born) c);pure (.tuple #[.bool true,e.key,e.val]):Sem Value)
       | some none=>pure (.tuple #[.bool false])
       | none=>stuck "Next: no such candidate").run P w1=.ok v' w'->(Instr.next (.pointer (some ⟨r.bC,0+0,none⟩)) false ty).run P w=.ok v' w':=by
      intro v' w' hx
      unfold Instr.next
      simp only [add_zero,Sem.run_bind,cA,Result.andThen_ok,S7,pW,Bool.false_eq_true,if_false]
      show ((choose (.mapNext pS.size)).run P w).andThen _=_
      rw [Am]
      exact hx
     cases cq with
     | none=>
      -- it is Lv
      have ho:old.isEmpty=true:=by
       apply byContradiction
       intro ho
       have:(none:Option MapEntry)∈pS:=Array.mem_of_getElem? Kg
       simp only [pS,if_neg ho] at this
       simp at this
      refine ⟨(.tuple #[.bool false],h),?_,.tuple #[.bool false],w1,gW (by rw [Kg];rfl),aC.tR (.cons (.bool _) .nil),TV.2,hT1⟩
      rw [<-hn]
      have:=oM.2 ho
      refine List.mem_append_left _ ?_
      rw [this];simp
     | some en=>
      have Cr:en∈old++new:=by
       have:(some en:Option MapEntry)∈pS:=Array.mem_of_getElem? Kg
       simp only [pS] at this
       rcases Array.mem_append.1 this with h1 | h1
       ·split at h1 <;> simp at h1
       ·obtain ⟨e2,h2,h3⟩:=Array.mem_map.1 h1
        cases h3
        exact h2
      have Kk:en∈aQ.toList/\seen.contains en.born=false:=by
       rcases Array.mem_append.1 Cr with h1 | h1
       ·simp only [old,left] at h1
        rw [Array.mem_filter,Array.mem_filter] at h1
        exact ⟨by simpa using h1.1.1,by simpa using h1.1.2⟩
       ·simp only [new,left] at h1
        rw [Array.mem_filter,Array.mem_filter] at h1
        exact ⟨by simpa using h1.1.1,by simpa using h1.1.2⟩
      obtain ⟨e,he,g1,g2,g3⟩:=hz en Kk.1
      have aF:=(bz th).1
      have jQ:cF h j:=.inr (.inr (.inr (.inr (.inr ⟨_,_,_,_,th⟩))))
      have sb:=nr.obj Ke (.mapIter (some rm.bC) kT (seen.toArray.push en.born) c)
      obtain ⟨q1,q2⟩:=TV.2.set (o:=.iter i kT (seen++[e.1]) c) hr jQ sb ⟨yw,rm,KG,by rw [sb.here,g1];simp⟩
      have mH:(setObj r.bC (.mapIter (some rm.bC) kT (seen.toArray.push en.born) c)).run P w1=.ok () { w1 with heap:=w1.heap.setIfInBounds r.bC (.mapIter (some rm.bC) kT (seen.toArray.push en.born) c) }:=by
       simp [setObj,Sem.run,Ke]
      refine ⟨(.tuple #[.bool true,e.2.1,e.2.2],h.set j (.iter i kT (seen++[e.1]) c)),?_,.tuple #[.bool true,en.key,en.val],_,gW (by rw [Kg];simp only [Sem.run_bind,mH,Result.andThen_ok,Sem.run_pure]),?_,q1,hT1.trans q2⟩
      ·rw [<-hn]
       refine List.mem_append_right _ (mem_map.2 ⟨e,?_,rfl⟩)
       have hl:e∈es.filter λe=> !seen.contains e.1:=by
        rw [mem_filter,g1]
        exact ⟨he,by simp at Kk⊢;exact Kk.2⟩
       by_cases mV:e.1<kT
       ·exact List.mem_append_left _ (mem_filter.2 ⟨hl,by simpa using mV⟩)
       ·exact List.mem_append_right _ (mem_filter.2 ⟨hl,by simpa using le_of_not_lt mV⟩)
      ·rw [g2]
       have Tk:aC ρ en.key en.key:=by
        have hk:fy g en.key=true:=by
         obtain ⟨q',ie,e'⟩:=List.mem_iff_getElem.1 Kk.1
         have:aQ[q']?=some en:=by rw [<-getElem?_toList,getElem?_eq_getElem ie,e']
         exact (E.inv this).choose_spec.2.1
        have ints:∀{kd:IntKind} {v:Value},kR kd v=true->aC ρ v v/\gF v=true:=by
         intro kd v hv
         cases v <;> simp [kR] at hv
         exact ⟨.int _ _,rfl⟩
        cases tk:en.key with
        | int kd n=>exact .int _ _
        | string s=>exact .string _
        | agg cs=>
         rw [tk] at hk
         cases g with
         | ints n kd=>
          simp only [fy,and_eq_true,all_eq_true] at hk
          refine .agg rfl (λx hx=>(ints (hk.2 x hx).1).2) (λk x x' hx cE=>?_)
          rw [hx] at cE
          cases cE
          exact (ints (hk.2 x (by rw [<-getElem?_toList] at hx;exact mem_of_getElem? hx)).1).1
         | int _=>simp [fy,kR] at hk
         | str=>simp [fy] at hk
        | _=>rw [tk] at hk;cases g <;> simp [fy,kR] at hk
       exact aC.tR (.cons (.bool _) (.cons Tk (.cons g3 .nil)))
   ·cases hn
  ·cases hn
 ·cases hn
end
end
section
section
variable {P : Program} {N : Nat}
theorem ay3 {op:Op} {it:Operand} (h:jf P op=some (.next it)):op=.next it false:=by
 unfold jf at h
 split at h
 case h_13=>simp at h;subst h;rfl
 all_goals exfalso
 all_goals repeat' (split at h)
 all_goals first | (cases h;done) | (simp at h;done) | (simp only [map_eq_some_iff] at h;obtain ⟨_,_,h⟩:=h;cases h;done) | skip
theorem aEv {o:Oper} {io:iG} {f:Nat->Value} {h:ae} {K:Value->ae->Prop} (hc:vM P o.op=some io) (aI:o.op.operands.all j9=true) (hs:Di P io f h K):
  ∀R B ρ a w,eQ P N B ρ f h a w->∀(next:Act->World->Prop) (Q:Exit->Act->World->Prop),
   (∀v h' av v' w',K v h'->aC av v v'->a9 P av h' w'->Tr ρ h w av h' w'->next (a.put o.dst v') w')->o.wpIn (FR R) 0 P a w next Q:=by
 have det:dE P io f h K->∀R B ρ a w,eQ P N B ρ f h a w->∀(next:Act->World->Prop) (Q:Exit->Act->World->Prop),
   (∀v h' av v' w',K v h'->aC av v v'->a9 P av h' w'->Tr ρ h w av h' w'->next (a.put o.dst v') w')->o.wpIn (FR R) 0 P a w next Q:=by
  intro hs R B ρ a w Rr next Q hn
  obtain ⟨v,h',st,hk⟩:=Bf (N:=N) hc aI hs
  exact st R B ρ a w Rr next Q λav v' w' h1 h2 h3=>hn v h' av v' w' hk h1 h2 h3
 cases io with
 | e eo=>
  cases eo with
  | next it=>
   obtain ⟨l,hl,hk⟩:=hs
   rcases RE hc with ⟨po,e,_⟩ | ⟨lo,e,_⟩ | ⟨eo,e,he⟩ | ⟨g,args,at_,_,_,e⟩ | ⟨x,args,at_,_,e⟩
   ·cases e
   ·cases e
   ·cases e
    have dB:=ay3 he
    intro R B ρ a w Rr next Q hn
    rw [dB] at aI
    simp [Op.operands] at aI
    obtain ⟨p,hp,v',w',h1,h2,h3,h4⟩:=aEj Rr.heap hl (Rr.ev aI) o.type
    exact Nc (afQ hc) (v:=v') (w':=w') (by simp [execOp,dB,h1]) (hn p.1 p.2 ρ v' w' (hk p hp) h2 h3 h4)
   ·cases e
   ·cases e
  | _=>exact det hs
 | _=>exact det hs
def ot (P:Program) (N:Nat) (ops:Array Oper) (kE:List Nat) (f:Nat->Value) (h:ae) (K:(Nat->Value)->ae->Prop):Prop:=
 ∀S B ρ a w,eQ P N B ρ f h a w->∀Q:Exit->Act->World->Prop,(∀f' h' av a' w',K f' h'->eQ P N B av f' h' a' w'->Tr ρ h w av h' w'->Q .normal a' w')->wpOpsIn (FR S) 0 P ops Q kE a w
theorem iH.n {ops:Array Oper} {kE:List Nat} {f f':Nat->Value} {h h':ae} {K:(Nat->Value)->ae->Prop} (r:iH P N ops kE f h f' h') (hk:K f' h'):ot P N ops kE f h K:=
 λS B ρ a w R Q hq=>r S B ρ a w R Q λav a' w' R' T=>hq f' h' av a' w' hk R' T
theorem ot.append {ops:Array Oper} {i j:List Nat} {f:Nat->Value} {h:ae} {K K':(Nat->Value)->ae->Prop} (a:ot P N ops i f h K) (b:∀dj h₁,K dj h₁->ot P N ops j dj h₁ K'):ot P N ops (i++j) f h K':=by
 intro S B ρ ac w R Q hq
 refine vC (a S B ρ ac w R _ ?_)
 intro dj h₁ nM zG oZ hk zx T
 exact b dj h₁ hk S B nM zG oZ zx Q λf' h' av a' w' bD R' T'=>hq f' h' av a' w' bD R' (T.trans T')
theorem ot.weaken {ops:Array Oper} {kE:List Nat} {f dj:Nat->Value} {h:ae} {K:(Nat->Value)->ae->Prop} (hw:tV dj f) (hr:ot P N ops kE dj h K):ot P N ops kE f h K:=
 λS B ρ a w R=>hr S B ρ a w (R.weaken hw)
theorem agP {ops:Array Oper}:∀{l:List jM} {os:List Oper} {i:Nat} {K:(Nat->Value)->ae->Prop} {f:Nat->Value} {h:ae},(∀(k:Nat) (o:Oper),os[k]?=some o->ops[i+k]?=some o)->mA P N ops os=some (qM none l)->Cf P l K f h->
  ot P N ops (range' i os.length) f h K
 | [],os,i,K,f,h,_,hc,hi=>by
  cases os with
  | nil=>exact λS B ρ a w R Q hq=>hq f h ρ a w hi R (Tr.refl R.heap)
  | cons o os=>obtain ⟨x,xs,_,_,he⟩:=vL hc;simp [qM] at he
 | g::l,os,i,K,f,h,qT,hc,hi=>by
  cases os with
  | nil=>simp [mA,qM] at hc
  | cons o os=>
   obtain ⟨x,xs,h1,h2,he⟩:=vL hc
   simp only [qM,map_cons,List.cons.injEq] at he
   obtain ⟨rfl,rfl⟩:=he
   obtain ⟨q1,q2,q3,q4,q5⟩:=Ek h1
   have ho:ops[i]?=some o:=qT 0 o rfl
   have KA:∀(k:Nat) (o':Oper),os[k]?=some o'->ops[i+1+k]?=some o':=by
    intro k o' hk
    have:=qT (k+1) o' (by simpa using hk)
    rw [show i+(k+1)=i+1+k by omega] at this
    exact this
   intro S B ρ a w R Q hq
   rw [length_cons,List.range'_succ]
   simp only [wpOpsIn,ho]
   rw [if_pos (by rw [GL q4 R trivial];rfl)]
   have bc:Di P g.op f h λv h'=>Cf P l K (dS f g.dst v) h':=hi
   refine aEv q3 q1 bc S B ρ a w R _ _ ?_
   intro v h' av v' w' hk hv H T
   have q5':g.dst=o.dst:=q5
   rw [q5'] at hk
   exact agP KA h2 hk S B av _ w' (R.vh q2 T hv H) Q λEv aX nj sN kG aBw pq T'=>hq Ev aX nj sN kG aBw pq (T.trans T')
theorem afV {ls:List Nat} {c:fG} {K:Exit->(Nat->Value)->ae->Prop} {f:Nat->Value} {h:ae} (hi:mI P (xS ls c) K f h):∃f',tV f' f/\mI P c K f' h:=by
 cases ls with
 | nil=>exact ⟨f,λ_=>.inl rfl,hi⟩
 | cons l ls=>exact ⟨_,FU f (l::ls),hi⟩
theorem aIH {ops:Array Oper}:∀{gs:List (Option (Nat×Bool)×List jM)} {hs:Hints} {os:List Oper} {i:Nat} {K:Exit->(Nat->Value)->ae->Prop} {f:Nat->Value} {h:ae},
  (∀(k:Nat) (o:Oper),os[k]?=some o->ops[i+k]?=some o)->mA P N ops os=some (oE gs)->(∀g l,(g,l)∈gs->∀o∈l,leaves g o.dst=true)->mI P (ry gs hs).1 K f h->
  ot P N ops (range' i os.length) f h (K .normal):=by
 intro gs
 induction gs with
 | nil=>
  intro hs os i K f h qT hc _ hi
  cases os with
  | nil=>exact λS B ρ a w R Q hq=>hq f h ρ a w hi R (Tr.refl R.heap)
  | cons o os=>
   obtain ⟨x,xs,_,_,he⟩:=vL hc
   simp [oE] at he
 | cons a gs ih=>
  obtain ⟨g,l⟩:=a
  intro hs os i K f h qT hc hl hi
  simp only [oE] at hc
  obtain ⟨mJ,gY,rfl,c0,c1⟩:=RC hc
  have KB:∀(k:Nat) (o:Oper),mJ[k]?=some o->ops[i+k]?=some o:=by
   intro k o hk
   refine qT k o ?_
   rw [getElem?_append_left (bz hk).1]
   exact hk
  have Tt:∀(k:Nat) (o:Oper),gY[k]?=some o->ops[i+mJ.length+k]?=some o:=by
   intro k o hk
   rw [Nat.add_assoc]
   refine qT _ o ?_
   rw [List.getElem?_append_right (by omega)]
   simpa using hk
  have first:∀{K:(Nat->Value)->ae->Prop},Lr P g l K f h->ot P N ops (range' i mJ.length) f h K:=by
   intro K hk
   cases g with
   | none=>exact agP KB c0 hk
   | some sb=>
    obtain ⟨f',h',r1,r2⟩:=KR KB c0 (alV (λo ho=>hl _ l (by simp) o ho) hk)
    exact r1.n r2
  have both:∀{OA:(Nat->Value)->ae->Prop},ot P N ops (range' i mJ.length) f h OA->(∀dj h₁,OA dj h₁->ot P N ops (range' (i+mJ.length) gY.length) dj h₁ (K .normal))->ot P N ops (range' i (mJ++gY).length) f h (K .normal):=by
   intro OA a b
   rw [List.length_append,<-List.range'_append_1]
   exact a.append b
  have rest:∀{hs:Hints} {dj:Nat->Value} {h₁:ae},mI P (ry gs hs).1 K dj h₁->ot P N ops (range' (i+mJ.length) gY.length) dj h₁ (K .normal):=
   λhk=>ih Tt c1 (λg' l' hm=>hl g' l' (by simp [hm])) hk
  cases gs with
  | nil=>
   have E9:mI P (.ops g l) K f h:=by
    cases hs <;> exact hi
   have r1:=first E9
   have h1:gY=[]:=by
    cases gY with
    | nil=>rfl
    | cons o os=>obtain ⟨x,xs,_,_,he⟩:=vL c1;simp [oE] at he
   subst h1
   simpa using r1
  | cons b gs=>
   cases hs with
   | nil=>exact both (first (K:=λf h=>mI P (ry (b::gs) []).1 K f h) hi) λdj h₁ r2=>rest r2
   | cons h0 hs=>
    refine both (first (K:=λf h=>mI P (xS h0 (ry (b::gs) hs).1) K f h) hi) λdj h₁ r2=>?_
    obtain ⟨Ss,hw,r3⟩:=afV r2
    exact (rest r3).weaken hw
def zw (P:Program) (N B:Nat) (ρ:aO) (h:ae) (w:World) (K:ar):Exit->Act->World->Prop:=
 λe a' w'=>∃f' h' av,K e f' h'/\eQ P N B av f' h' a' w'/\Tr ρ h w av h' w'
def xH (P:Program) (N:Nat) (out:Bool) (c:Code) (f:Nat->Value) (h:ae) (K:ar):Prop:=
 ∀S,(out=true->S=none)->∀B ρ a w,eQ P N B ρ f h a w->c.wpIn (FR S) 0 P (zw P N B ρ h w K) a w
def BN (P:Program) (N:Nat) (out:Bool) (c:Code) (f:Nat->Value) (h:ae) (K:ar):Prop:=
 ∀S,(out=true->S=none)->∀B ρ a w,eQ P N B ρ f h a w->rj S P c (zw P N B ρ h w K) a w
variable {out : Bool}
theorem iy.n {c:Code} {f f':Nat->Value} {h h':ae} {e:Exit} {K:ar} (r:iy P N out c f h e f' h') (hk:K e f' h'):xH P N out c f h K:=by
 intro S hS B ρ a w R
 refine wpIn_mono (r S hS B ρ a w R) ?_
 rintro e' a' w' ⟨rfl,av,R',T⟩
 exact ⟨f',h',av,hk,R',T⟩
theorem zw.trans {B:Nat} {ρ nM:aO} {h h₁:ae} {w oZ:World} {K:ar} (T:Tr ρ h w nM h₁ oZ):∀e' a' w',zw P N B nM h₁ oZ K e' a' w'->zw P N B ρ h w K e' a' w':=by
 rintro e' a' w' ⟨f',h',av,hk,R,T'⟩
 exact ⟨f',h',av,hk,R,T.trans T'⟩
theorem xH.weaken {c:Code} {f dj:Nat->Value} {h:ae} {K:ar} (hw:tV dj f) (hr:xH P N out c dj h K):xH P N out c f h K:=
 λS hS B ρ a w R=>hr S hS B ρ a w (R.weaken hw)
theorem BN.weaken {c:Code} {f dj:Nat->Value} {h:ae} {K:ar} (hw:tV dj f) (hr:BN P N out c dj h K):BN P N out c f h K:=
 λS hS B ρ a w R=>hr S hS B ρ a w (R.weaken hw)
theorem aCV {out:Bool}:∀{c:Code} {hs eD:Hints} {ic:fG},fX P N c hs=some (ic,eD)->(out=true∨ja c=true)->∀{K:ar} {f:Nat->Value} {h:ae},mI P ic K f h->xH P N out c f h K:=by
 intro c
 induction c with
 | skip=>
  intro hs eD ic hc ho K f h hi
  simp [fX] at hc
  obtain ⟨rfl,_⟩:=hc
  exact λS hS B ρ a w R=>wpIn_skip ⟨f,h,ρ,hi,R,Tr.refl R.heap⟩
 | region id ops draw=>
  intro hs eD ic hc ho K f h hi
  cases draw with
  | true=>
   simp only [fX] at hc
   split at hc
   ·rename_i l hl
    split at hc
    ·rename_i wh
     simp at hc
     obtain ⟨rfl,_⟩:=hc
     have iA:=agH (af5 wh) hi
     rw [JD] at iA
     obtain ⟨f',h',r1,r2⟩:=aiC (id:=id) hl iA
     exact r1.n r2
    ·cases hc
   ·cases hc
  | false=>
   simp only [fX] at hc
   split at hc
   ·rename_i l hl
    split at hc
    ·rename_i wh
     simp only [Option.some.injEq] at hc
     have he:ic=(ry (uC l) hs).1:=by rw [hc]
     subst he
     have r1:=aIH (i:=0) (os:=ops.toList) (ops:=ops) (λk o hk=>by simpa using hk) (by rw [JS];exact hl) (ajd wh) hi
     intro S hS B ρ a w R
     refine wpIn_region ?_
     rw [List.range_eq_range']
     have r1':ot P N ops (range' 0 ops.size) f h (K .normal):=by simpa using r1
     refine r1' S B ρ a w R _ ?_
     intro f' h' av a' w' hk R' T
     exact ⟨f',h',av,hk,R',T⟩
    ·cases hc
   ·simp at hc
    obtain ⟨rfl,_⟩:=hc
    exact (show False from hi).elim
 | seq x y AT AU=>
  intro hs eD ic hc ho K f h hi
  have AB:out=true∨ja x=true:=ho.imp id λh=>by simp only [ja,and_eq_true] at h;exact h.1
  have AD:out=true∨ja y=true:=ho.imp id λh=>by simp only [ja,and_eq_true] at h;exact h.2
  have both:∀{a b:fG} {h0 jF mb:Hints} {ls:List Nat},fX P N x hs=some (a,h0)->fX P N y jF=some (b,mb)->mI P (.seq a (xS ls b)) K f h->xH P N out (.seq x y) f h K:=by
   intro a b h0 jF mb ls ha hb hi
   have r1:=AT ha AB hi
   intro S hS B ρ ac w R
   refine wpIn_seq (wpIn_mono (r1 S hS B ρ ac w R) ?_)
   rintro e' a' w' ⟨dj,h₁,nM,hk,zx,T⟩
   cases e' with
   | normal=>
    obtain ⟨Ss,hw,r3⟩:=afV hk
    exact wpIn_mono (((AU hb AD r3).weaken hw) S hS B nM a' w' zx) (zw.trans T)
   | _=>exact ⟨dj,h₁,nM,hk,zx,T⟩
  simp only [fX] at hc
  split at hc
  ·rename_i a h0 jF ha
   split at hc
   ·rename_i b mb hb
    simp at hc
    obtain ⟨rfl,_⟩:=hc
    exact both ha hb hi
   ·cases hc
  ·rename_i a ha
   split at hc
   ·rename_i b mb hb
    simp at hc
    obtain ⟨rfl,_⟩:=hc
    exact both (ls:=[]) ha hb hi
   ·cases hc
  ·cases hc
 | cond c x y AT AU=>
  intro hs eD ic hc ho K f h hi
  have AB:out=true∨ja x=true:=ho.imp id λh=>by simp only [ja,and_eq_true] at h;exact h.1
  have AD:out=true∨ja y=true:=ho.imp id λh=>by simp only [ja,and_eq_true] at h;exact h.2
  simp only [fX] at hc
  split at hc
  ·rename_i aI
   split at hc
   ·rename_i a jF ha
    split at hc
    ·rename_i b mb hb
     simp at hc
     obtain ⟨rfl,_⟩:=hc
     have hi:pT (ev f c) (mI P a K f h) (mI P b K f h):=hi
     simp only [pT] at hi
     split at hi
     ·rename_i t ht
      have go:xH P N out (if t then x else y) f h K->xH P N out (.cond c x y) f h K:=by
       intro r S hS B ρ ac w R
       have:=R.ev aI
       rw [ht] at this
       exact wpIn_cond this.zJ (r S hS B ρ ac w R)
      cases t
      ·simp at hi
       exact go (by simpa using AU hb AD hi)
      ·simp at hi
       exact go (by simpa using AT ha AB hi)
     ·exact hi.elim
    ·cases hc
   ·cases hc
  ·cases hc
 | block id c ih=>
  intro hs eD ic hc ho K f h hi
  simp only [fX] at hc
  split at hc
  ·rename_i a jF ha
   simp at hc
   obtain ⟨rfl,_⟩:=hc
   have r1:=ih ha (ho.imp (λh=>h) λh=>h) (K:=bH id K) hi
   intro S hS B ρ ac w R
   refine wpIn_block (wpIn_mono (r1 S hS B ρ ac w R) ?_)
   rintro e' a' w' ⟨f',h',av,hk,R',T⟩
   cases e' with
   | exit i=>
    simp only [Exit.inBlock,bH] at hk⊢
    split <;> rename_i h
    ·rw [if_pos h] at hk;exact ⟨f',h',av,hk,R',T⟩
    ·rw [if_neg h] at hk;exact ⟨f',h',av,hk,R',T⟩
   | _=>exact ⟨f',h',av,hk,R',T⟩
  ·cases hc
 | loop c ih=>
  intro hs eD ic hc ho K f h hi
  simp only [fX] at hc
  split at hc
  ·rename_i ks ls jF
   split at hc
   ·rename_i a mb ha
    simp at hc
    obtain ⟨rfl,_⟩:=hc
    obtain ⟨J,μ,h0,TH⟩:=hi
    have key:∀(n:Nat) (xs:List Value) (hh:ae),μ xs hh=n->J xs hh->BN P N out c (kS (ks++ls) (ks.map f++xs)) hh K:=by
     intro n
     induction n using Nat.strongRecOn with
     | _ n tH=>
      intro xs hh hn hJ
      have r1:=ih ha (ho.imp (λh=>h) λh=>h) (TH xs hh hJ)
      intro S hS B ρ ac w R
      refine rj.round (wpIn_mono (r1 S hS B ρ ac w R) ?_)
      rintro e' a' w' ⟨dj,h₁,nM,hk,zx,T⟩
      cases e' with
      | normal=>
       obtain ⟨hk,SL,aF⟩:=hk
       have s1:=tH (μ (ls.map dj) h₁) (by omega) (ls.map dj) h₁ rfl SL
       have s2:BN P N out c dj h₁ K:=s1.weaken (by rw [<-hk];exact Lq dj ks ls _ rfl)
       exact (s2 S hS B nM a' w' zx).mono (zw.trans T)
      | _=>exact ⟨dj,h₁,nM,hk,zx,T⟩
    have s1:BN P N out c f h K:=(key _ (ls.map f) h rfl h0).weaken (Lq f ks ls _ rfl)
    exact λS hS B ρ ac w R=>(s1 S hS B ρ ac w R).wp
   ·cases hc
  ·cases hc
 | exit id=>
  intro hs eD ic hc ho K f h hi
  simp [fX] at hc
  obtain ⟨rfl,_⟩:=hc
  exact λS hS B ρ a w R=>wpIn_exit ⟨f,h,ρ,hi,R,Tr.refl R.heap⟩
 | ret=>
  intro hs eD ic hc ho K f h hi
  simp [fX] at hc
  obtain ⟨rfl,_⟩:=hc
  exact λS hS B ρ a w R=>wpIn_ret ⟨f,h,ρ,hi,R,Tr.refl R.heap⟩
 | rangeFunc g ps kL body=>
  intro hs eD ic hc ho K f h hi
  have ho:out=true:=ho.resolve_right (by simp [ja])
  subst ho
  simp only [fX] at hc
  split at hc
  ·rename_i ls jF
   split at hc
   ·rename_i hk
    simp at hc
    obtain ⟨rfl,_⟩:=hc
    simp only [and_eq_true] at hk
    obtain ⟨h',r1,r2⟩:=ap3 hk.1 hi
    exact r1.n r2
   ·cases hc
  ·cases hc
 | _=>intro hs eD ic hc;simp [fX] at hc
end
def Uj (P:Program) (F:FuncId) (args:List Value) (h:ae) (K:Value->ae->Prop):Prop:=
 ∀(ρ:aO) (args':Array Value) (w:World),bR ρ args args'.toList->a9 P ρ h w->
  Calls P F args' w λe w'=>∃v h' v' av,K v h'/\e=.returned v'/\aC av v v'/\a9 P av h' w'/\Tr ρ h w av h' w'
theorem aCw {P:Program} {F:FuncId} {N:Nat} {ic:fG} {rs:List kX} {hs:Hints} {h:ae} (hc:bE P F hs=some (N,ic,rs)) {args:List Value} (ha:args.length<=N) {K:Value->ae->Prop}
  (hi:mI P ic (QD rs K) (bw args) h):Uj P F args h K:=by
 unfold bE at hc
 split at hc
 ·rename_i fn hf
  split at hc
  ·rename_i c hb
   split at hc
   ·rename_i ic' _ Xz h1 h2
    simp at hc
    obtain ⟨hN,rfl,rfl⟩:=hc
    have r1:=aCV (out:=true) h1 (.inl rfl) hi
    intro ρ args' w hv H
    refine callsIn_wide.1 (callsIn_of_wp_marks (F:=Fence.wide) (n:=0) hf hb trivial ?_ rfl)
    have kC:args'.size=args.length:=by have:=hv.length;simpa using this.symm
    have R:eQ P fn.ntmps w.heap.size ρ (bw args) h { tmps:=args'++replicate (fn.ntmps-args'.size) Go.undef,defers:=[] } w:=⟨by simp;omega,le_refl _,agD hv fn.ntmps,H⟩
    refine wpIn_mono (r1 none (λ_=>rfl) _ ρ _ w R) ?_
    rintro e' a' w' ⟨f',h',av,hk,R',T⟩
    have tw:(e'=.normal∨e'=.ret)/\Mx Xz K f' h':=by
     cases e' <;> first | exact ⟨.inl rfl,hk⟩ | exact ⟨.inr rfl,hk⟩ | exact hk.elim
    obtain ⟨he,tw⟩:=tw
    obtain ⟨vs,yy,tw⟩:=My tw
    have key:LeavesInM Fence.wide 0 P fn a'.tmps (λe w'=>∃v h' v' av,K v h'/\e=.returned v'/\aC av v v'/\a9 P av h' w'/\Tr ρ h w av h' w') a'.defers .returning w':=by
     refine UH R'.defers R'.heap T ?_
     intro kG DI uj
     have pq:eQ P fn.ntmps 0 av f' h' { a' with defers:=[] } kG:=⟨R'.size,Nat.zero_le _,R'.tmp,DI⟩
     obtain ⟨v',q1,q2⟩:=aql pq h2 yy
     exact ⟨v',q1,pack vs,h',v',av,tw,rfl,q2,DI,uj⟩
    rcases he with rfl | rfl
    ·exact key
    ·exact key
   ·cases hc
  ·cases hc
 ·cases hc
end
section
inductive DR (o:Option (List (Value×ae))) (K:Value->ae->Prop):Prop | mk:(∃l,o=some l/\∀p∈l,K p.1 p.2)->DR o K
inductive DF (P:Program) (F:FuncId) (args:List Value) (h:ae) (K:Value->ae->Prop):Prop | mk:Uj P F args h K->DF P F args h K
theorem abj (o:Option (List (Value×ae))) (K:Value->ae->Prop):DR o K=∃l,o=some l/\∀p∈l,K p.1 p.2:=propext ⟨λ⟨h⟩=>h,.mk⟩
theorem arI:DF=Uj:=funext λ_=>funext λ_=>funext λ_=>funext λ_=>funext λ_=>propext ⟨λ⟨h⟩=>h,.mk⟩
def GD (P:Program) (o:iG) (f:Nat->Value) (h:ae) (K:Value->ae->Prop):Prop:=
 match o with
 | .e (.next it)=>DR (Bc h (ev f it)) K
 | .p o=>Gs o (ev f) λv=>K v h
 | .l o=>OP (gr o (ev f) h) λv=>K v h
 | .e o=>OH (gS o (ev f) h) K
 | .call g args=>ak P g (args.map (ev f)) h K
 | .lV x args=>vG P (ev f x) (args.map (ev f)) h K
theorem aJY (P:Program) (o:iG) (f:Nat->Value) (h:ae) (K:Value->ae->Prop):GD P o f h K=Di P o f h K:=by
 cases o with
 | e eo=>cases eo <;> simp only [GD,Di,dE,OB,abj]
 | _=>simp only [GD,Di,dE,W4,BO,uc,NJ]
def SG (P:Program) (l:List jM) (K:(Nat->Value)->ae->Prop):(Nat->Value)->ae->Prop:=
 List.rec (motive:=λ_=>(Nat->Value)->ae->Prop) (λf h=>K f h) (λo _ ih f h=>GD P o.op f h λv h'=>ih (dS f o.dst v) h') l
theorem aAU (P:Program) (l:List jM) (K:(Nat->Value)->ae->Prop):∀(f:Nat->Value) (h:ae),SG P l K f h=Cf P l K f h:=by
 induction l with
 | nil=>intro f h;rfl
 | cons o os ih=>
  intro f h
  show GD P o.op f h (λv h'=>SG P os K (dS f o.dst v) h')=_
  rw [aJY,Cf]
  congr 1
  funext v h'
  exact ih _ _
def Vl (P:Program) (g:Option (Nat×Bool)) (l:List jM) (K:(Nat->Value)->ae->Prop) (f:Nat->Value) (h:ae):Prop:=
 match g with
 | none=>SG P l K f h
 | some (s,b)=>ck (f s) b (EG P l K f h) (K (Dn l f) h)
theorem aEz (P:Program) (g:Option (Nat×Bool)) (l:List jM) (K:(Nat->Value)->ae->Prop) (f:Nat->Value) (h:ae):Vl P g l K f h=Lr P g l K f h:=by
 unfold Vl Lr tM
 split <;> simp only [aAU,agQ,NK]
noncomputable def iY (P:Program) (c:fG):ar->(Nat->Value)->ae->Prop:=
 fG.rec (motive:=λ_=>ar->(Nat->Value)->ae->Prop)
  (λK f h=>K .normal f h)
  (λl K f h=>uB P l 0 [] [] (K .normal) f h)
  (λg l K f h=>Vl P g l (K .normal) f h)
  (λ_ _ ia ib K f h=>ia (aH (ib K) K) f h)
  (λls _ ic K f h=>ax (ic K) ls (ls.map f) h)
  (λc _ _ ia ib K f h=>aN (ev f c) (ia K f h) (ib K f h))
  (λid _ ic K f h=>ic (bH id K) f h)
  (λks ls _ ic K f h=>cO (ls.map f) h λL xs hx=>ax (ic (aH (λf' aX=>ks.map f'=ks.map f/\L (ls.map f') aX) K)) (ks++ls) (ks.map f++xs) hx)
  (λid K f h=>K (.exit id) f h)
  (λK f h=>K .ret f h)
  (λg ls c K f h=>BP P (ev f g) ls (ls.map f) c h (K .normal f)) c
theorem aCU (P:Program) (c:fG):iY P c=mI P c:=by
 induction c with
 | skip=>rfl
 | JH l=>funext K f h;exact J3 P l 0 [] [] (K .normal) f h
 | ops g l=>funext K f h;exact aEz P g l (K .normal) f h
 | seq a b so tG=>
  funext K f h
  show iY P a (aH (iY P b K) K) f h=mI P a (aH (mI P b K) K) f h
  rw [so,tG]
 | cut ls c ih=>
  funext K f h
  show ax (iY P c K) ls (ls.map f) h=B6 (mI P c K) ls (ls.map f) h
  rw [ih,DH]
 | cond c a b so tG=>
  funext K f h
  show aN (ev f c) (iY P a K f h) (iY P b K f h)=pT (ev f c) (mI P a K f h) (mI P b K f h)
  rw [so,tG,ZI]
 | block id c ih=>
  funext K f h
  show iY P c (bH id K) f h=mI P c (bH id K) f h
  rw [ih]
 | loop ks ls c ih=>
  funext K f h
  show cO (ls.map f) h (λL xs hx=>ax (iY P c (aH (λf' aX=>ks.map f'=ks.map f/\L (ls.map f') aX) K)) (ks++ls) (ks.map f++xs) hx)=
   A3 (ls.map f) h (λL xs hx=>mI P c (aH (λf' aX=>ks.map f'=ks.map f/\L (ls.map f') aX) K) (kS (ks++ls) (ks.map f++xs)) hx)
  rw [ih,abi,DH]
  rfl
 | exit id=>rfl
 | ret=>rfl
 | range g ls c=>
  funext K f h
  show BP P (ev f g) ls (ls.map f) c h (K .normal f)=vk P (ev f g) ls (ls.map f) c h (K .normal f)
  rw [abk]
theorem ayQ {P:Program} {F:FuncId} {N:Nat} {ic:fG} {rs:List kX} {hs:Hints} {h:ae} (hc:bE P F hs=some (N,ic,rs)) {args:List Value} (ha:args.length<=N)
  {K:Value->ae->Prop} (hi:iY P ic (aT rs K) (bw args) h):DF P F args h K:=
 .mk (aCw hc ha (by rw [<-aCU,<-abK];exact hi))
theorem auU {l:List (Value×ae)} {K:Value->ae->Prop}:DR (some l) K↔∀p∈l,K p.1 p.2:=by
 rw [abj]
 constructor
 ·rintro ⟨l',h1,h2⟩;cases h1;exact h2
 ·intro h;exact ⟨l,rfl,h⟩
section gc
variable {P : Program} {F : FuncId} {args : List Value} {h : ae}
theorem ayR {K:Value->ae->Prop} {V:Nat->Value} {o:aq} (hV:xG V) (ho:wZ o=true)
  (hc:DF P F args h λu h'=>EX h h'/\∃i,h.length<=i/\h'[i]?=some o/\u=V i) (hk:K (V h.length) (h++[o])):ak P F args h K:=by
 rw [uc]
 rw [arI] at hc
 refine ⟨_,_,?_,hk⟩
 intro ρ args' w hv H
 refine (hc ρ args' w hv H).mono ?_
 rintro e w' ⟨u,h',v',av,⟨hex,i,hi,cA,rfl⟩,rfl,kD,H',T⟩
 let nj:aO:=λk=>if k=h.length then av i else ρ k
 have r1:nj h.length=av i:=by simp [nj]
 have r2:∀k,k≠h.length->nj k=ρ k:=λk hk=>by simp [nj,hk]
 have r3:∀k r,ρ k=some r->av k=some r/\k<h.length/\h'[k]?=h[k]?:=λk r hr=>⟨T.ext k r hr,H.lt hr,hex.2 k (H.lt hr)⟩
 have old:∀k,k<h.length->(h++[o])[k]?=h[k]?:=λk hk=>getElem?_append_left hk
 have new:(h++[o])[h.length]?=some o:=by simp
 have hle:ρ.le nj:=by
  intro k r hr
  rw [r2 k (by have:=H.lt hr;omega)]
  exact hr
 have mt:∀k,k<h.length->(cF (h++[o]) k↔cF h' k):=λk hk=>by unfold cF;rw [old k hk,hex.2 k hk]
 have FG:∀k,k<h.length->(dZ (h++[o]) k↔dZ h' k):=λk hk=>by unfold dZ;rw [old k hk,hex.2 k hk]
 have U5:cF (h++[o]) h.length↔cF h' i:=by unfold cF;rw [new,cA]
 have UN:dZ (h++[o]) h.length↔dZ h' i:=by unfold dZ;rw [new,cA]
 refine ⟨v',nj,rfl,hV av nj i h.length v' r1 kD,⟨?_,?_,?_⟩,?_⟩
 ·intro k r hr
  by_cases e:k=h.length
  ·subst e
   rw [r1] at hr
   obtain ⟨o',dX,nV⟩:=H'.obj i r hr
   rw [cA] at dX
   cases dX
   exact ⟨o,new,wZ.rel ho nV⟩
  ·rw [r2 k e] at hr
   obtain ⟨q1,q2,q3⟩:=r3 k r hr
   obtain ⟨o',dX,nV⟩:=H.obj k r hr
   obtain ⟨o2,E7,TE⟩:=H'.obj k r q1
   rw [q3,dX] at E7
   cases E7
   exact ⟨o',by rw [old k q2];exact dX,(nV.down T.ext TE).mono hle rfl⟩
 ·intro a b r s ha hb nG hm hl
  by_cases ea:a=h.length <;> by_cases eb:b=h.length
  ·omega
  ·subst ea
   rw [r1] at ha
   rw [r2 b eb] at hb
   obtain ⟨q1,q2,q3⟩:=r3 b s hb
   have:=H'.inj i b r s ha q1 nG (U5.1 hm) ((FG b q2).1 hl)
   omega
  ·subst eb
   rw [r1] at hb
   rw [r2 a ea] at ha
   obtain ⟨q1,q2,q3⟩:=r3 a r ha
   have:=H'.inj a i r s q1 hb nG ((mt a q2).1 hm) (UN.1 hl)
   omega
  ·rw [r2 a ea] at ha
   rw [r2 b eb] at hb
   obtain ⟨q1,q2,_⟩:=r3 a r ha
   obtain ⟨p1,p2,_⟩:=r3 b s hb
   exact H'.inj a b r s q1 p1 nG ((mt a q2).1 hm) ((FG b p2).1 hl)
 ·intro k r hr
  by_cases e:k=h.length
  ·subst e
   rw [r1] at hr
   exact H'.bm i r hr
  ·rw [r2 k e] at hr
   exact H.bm k r hr
 ·exact {
   ext:=hle
   len:=by simp
   jY:=λk r hr=>H.lt hr
   kinds:=λk hk hm=>by unfold cF at hm⊢;rw [old k hk] at hm;exact hm
   fresh:=by
    intro k r hr hn
    by_cases e:k=h.length
    ·subst e
     rw [r1] at hr
     have fK:ρ i=none:=by
      cases hq:ρ i with
      | none=>rfl
      | some q=>exact absurd (H.lt hq) (by omega)
     exact ⟨le_refl _,(T.fresh i r hr fK).2⟩
    ·rw [r2 k e] at hr
     rw [hr] at hn
     cases hn
   iR:=T.iR
   gZ:=T.gZ
   os:=T.os
   tape:=T.tape
   output:=T.output }
end gc
end
end Go.Sim
