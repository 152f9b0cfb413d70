/-
  Part 2 of the texts behind a statement of this seat: Sim15, Sim17, Sim18, Sim18b, Sim18c, Sim18d, Sim18e, Sim18f, Sim19, Sim19b, Sim16, Sim20, Sim21, Sim23, Sim24, Sim25, Sim26.
-/
import Derived.ProofKit
import Derived.OpenShut
import Derived.Test.YtelmdbpaoifmoaaGreatMg1
open Array (getElem?_toList replicate)
open Bool (and_eq_true or_eq_true)
open Classical (byContradiction choose_spec)
open List (all_eq_true cons_append getD getElem?_append_left getElem?_eq_getElem getElem?_eq_none getElem?_set_ne getElem?_set_self length_cons map_cons mem_cons mem_cons_of_mem mem_filter mem_map mem_of_getElem? mem_range nodup_cons range')
open Nat (add_zero le_of_not_lt le_refl zero_add)
open Option (bind_some getD_some map_eq_some_iff map_some)
namespace Go.Sim
section
section
variable {P : Program} {N : Nat}
def iA (P:Program) (N:Nat) (ops:Array Oper) (j9:List Nat) (f:Nat→Value) (h:ae) (f':Nat→Value) (h':ae):Prop:=
 ∀S B ρ a w,eJ P N B ρ f h a w→∀Q:Exit→Act→World→Prop,(∀av a' w',eJ P N B av f' h' a' w'→Tr ρ h w av h' w'→Q .normal a' w')→wpOpsIn (FR S) 0 P ops Q j9 a w
theorem iA.nil {ops:Array Oper} {f:Nat→Value} {h:ae}:iA P N ops [] f h f h:=fun _ _ ρ a w R _ hq=>hq ρ a w R (Tr.refl R.heap)
theorem eJ.uU {B:Nat} {ρ av:aK} {f:Nat→Value} {h h':ae} {a:Act} {w w':World} (R:eJ P N B ρ f h a w) {d:Option Nat} (hd:d.all (·<N)=true) {v v':Value} (T:Tr ρ h w av h' w') (hv:ax av v v') (H:a9 P av h' w'):
  eJ P N B av (dO f d v) h' (a.put d v') w':=by
 cases d with
 | none=>exact R.mono T H
 | some d=>exact R.put (by simpa using hd) T hv H
theorem iA.step {ops:Array Oper} {i:Nat} {j9:List Nat} {o:Oper} {f f':Nat→Value} {h h₁ h':ae} {v:Value} (ho:ops[i]?=some o) (hd:o.dst.all (·<N)=true)
  (hw:∀B ρ a w,eJ P N B ρ f h a w→Region.wanted o (yielded ops a.tmps)=true) (hs:GY P N o f h v h₁) (hr:iA P N ops j9 (dO f o.dst v) h₁ f' h'):iA P N ops (i::j9) f h f' h':=by
 intro S B ρ a w R Q hq
 simp only [wpOpsIn,ho]
 rw [if_pos (hw B ρ a w R)]
 refine hs S B ρ a w R _ _ ?_
 intro av v' w' hv H T
 exact hr S B av _ w' (R.uU hd T hv H) Q fun nf sV kh o9 T'=>hq nf sV kh o9 (T.trans T')
theorem iA.pass {ops:Array Oper} {i:Nat} {j9:List Nat} {o:Oper} {f f':Nat→Value} {h h':ae} (ho:ops[i]?=some o) (hd:o.dst.all (·<N)=true)
  (hw:∀B ρ a w,eJ P N B ρ f h a w→Region.wanted o (yielded ops a.tmps)=false) (hr:iA P N ops j9 (dO f o.dst undef) h f' h'):iA P N ops (i::j9) f h f' h':=by
 intro S B ρ a w R Q hq
 simp only [wpOpsIn,ho]
 rw [if_neg (by rw [hw B ρ a w R];simp)]
 exact ⟨fun _ _=>trivial,hr S B ρ _ w (R.uU hd (Tr.refl R.heap) (ax.undef _) R.heap) Q hq⟩
def sZ (g:Option (Nat×Bool)) (f:Nat→Value):Prop:=
 match g with
 | none=>True
 | some (s,_)=>wE (f s)=false
theorem ayX {ρ:aK} {v v':Value} (h:ax ρ v v') (hb:wE v=false) (b:Bool):ra v' b=ra v b:=by
 cases h <;> first | rfl | simp [wE] at hb
theorem Ji {v:Value} {b:Bool} {A B:Prop} (h:kP v b A B):wE v=false∧((ra v b=true∧A)∨(ra v b=false∧B)):=by
 unfold kP at h
 split at h
 ·rename_i c
  refine ⟨rfl,?_⟩
  split at h
  ·rename_i hc;exact .inl ⟨hc,h⟩
  ·rename_i hc;exact .inr ⟨by simpa [ra] using hc,h⟩
 ·exact h.elim
 ·rename_i x h1 h2
  have e1:wE v=false:=by
   cases v <;> first | rfl | exact absurd rfl (h2 _ _ _)
  have e2:ra v b=false:=by
   cases v <;> first | rfl | exact absurd rfl (h1 _)
  exact ⟨e1,.inr ⟨e2,h⟩⟩
theorem Gg {ops:Array Oper} {o:Oper} {g:Option (Nat×Bool)} (hg:ID N ops o.guard=some g) {B:Nat} {ρ:aK} {f:Nat→Value} {h:ae} {a:Act} {w:World} (R:eJ P N B ρ f h a w) (hb:sZ g f):
  Region.wanted o (yielded ops a.tmps)=jh g f:=by
 unfold ID at hg
 unfold Region.wanted
 cases kU:o.guard with
 | none=>rw [kU] at hg;simp at hg;subst hg;rfl
 | some jb=>
  obtain ⟨j,b⟩:=jb
  rw [kU] at hg
  simp only at hg⊢
  split at hg
  ·rename_i s hs
   split at hg
   ·rename_i aD
    simp at hg;subst hg
    simp only [jh]
    have hr:=R.tmp s
    have jJ:s<a.tmps.size:=by rw [R.size];exact aD
    have bX:a.tmps[s]?=some (a.tmps.getD s Go.undef):=by simp [Array.getD,jJ]
    rw [←ayX hr hb b]
    unfold yielded
    rw [hs]
    simp only [bind_some,bX]
    generalize a.tmps.getD s Go.undef=u
    cases u <;> simp [ra]
   ·cases hg
  ·cases hg
def tU (f' f:Nat→Value):Prop:=∀t,f' t=f t∨f' t=ZH
theorem eJ.weaken {B:Nat} {ρ:aK} {f f':Nat→Value} {h:ae} {a:Act} {w:World} (R:eJ P N B ρ f h a w) (hw:tU f' f):eJ P N B ρ f' h a w:=
 ⟨R.size,R.defers,fun t=>(hw t).elim (fun e=>by rw [e];exact R.tmp t) (fun e=>by rw [e];exact .any _),R.heap⟩
theorem Fy (f:Nat→Value):∀ls:List Nat,tU (kF ls (ls.map f)) f
 | [],t=>.inr rfl
 | l::ls,t=>by
  simp only [map_cons,aAy]
  by_cases h:t=l
  ·subst h;simp
  ·rw [if_neg h];exact Fy f ls t
theorem iA.weaken {ops:Array Oper} {j9:List Nat} {f cZ f':Nat→Value} {h h':ae} (hw:tU cZ f) (hr:iA P N ops j9 cZ h f' h'):iA P N ops j9 f h f' h':=
 fun S B ρ a w R=>hr S B ρ a w (R.weaken hw)
theorem gZ.weaken {b:Bool} {c:Code} {f cZ f':Nat→Value} {h h':ae} {e:Exit} (hw:tU cZ f) (hr:gZ P N b c cZ h e f' h'):gZ P N b c f h e f' h':=
 fun S hS B ρ a w R=>hr S hS B ρ a w (R.weaken hw)
theorem vg {S:Option Nat} {ops:Array Oper} {Q:Exit→Act→World→Prop}:∀{i j:List Nat} {a:Act} {w:World},wpOpsIn (FR S) 0 P ops (fun e a w=>match e with | .normal=>wpOpsIn (FR S) 0 P ops Q j a w | e=>Q e a w) i a w→wpOpsIn (FR S) 0 P ops Q (i++j) a w
 | [],j,a,w,h=>h
 | i::is,j,a,w,h=>by
  simp only [cons_append,wpOpsIn] at h⊢
  cases ho:ops[i]? with
  | none=>rw [ho] at h;exact vg h
  | some o=>
   rw [ho] at h
   simp only at h⊢
   split at h
   ·rename_i hw
    rw [if_pos hw]
    obtain ⟨h0,h⟩:=h
    refine ⟨h0,?_⟩
    generalize (o.semAt (FR S).round a.eval).run P w=r at h⊢
    cases r with
    | ok x w'=>
     cases x <;> simp only [Oper.uponIn] at h⊢
     ·exact vg h
     ·exact vg h
     ·refine ⟨h.1,h.2.mono ?_⟩
      rintro e kh hR
      cases e with
      | returned v=>exact vg hR
      | panicked chain=>exact hR
      | outgrown=>exact hR
     ·refine ⟨h.1,h.2.mono ?_⟩
      rintro e kh hR
      cases e with
      | returned v=>exact vg hR
      | panicked chain=>exact hR
      | outgrown=>exact hR
     ·exact vg h
     ·refine ⟨h.1,h.2.mono ?_⟩
      rintro v kh hR
      exact vg hR
    | halt x w'=>
     cases x <;> simp only [Oper.uponIn] at h⊢
     exact h
   ·rename_i hw
    rw [if_neg hw]
    exact ⟨h.1,vg h.2⟩
theorem iA.append {ops:Array Oper} {i j:List Nat} {f cZ f':Nat→Value} {h h₁ h':ae} (a:iA P N ops i f h cZ h₁) (b:iA P N ops j cZ h₁ f' h'):iA P N ops (i++j) f h f' h':=by
 intro S B ρ ac w R Q hq
 refine vg (a S B ρ ac w R _ ?_)
 intro av a' w' R' T
 exact b S B av a' w' R' Q fun nf sV kh o9 T'=>hq nf sV kh o9 (T.trans T')
theorem D3 {ops:Array Oper} {o:Oper} {x:jo} (h:yX P N ops o=some x):
  o.op.operands.all jM=true∧o.dst.all (·<N)=true∧vM P o.op=some x.op∧ID N ops o.guard=some x.guard∧x.dst=o.dst:=by
 unfold yX at h
 split at h
 ·rename_i hc
  simp only [and_eq_true] at hc
  split at h
  ·rename_i op g h1 h2
   simp at h;subst h
   exact ⟨hc.1,hc.2,h1,h2,rfl⟩
  ·cases h
 ·cases h
theorem vL {ops:Array Oper} {o:Oper} {os:List Oper} {l:List jo} (h:lT P N ops (o::os)=some l):∃x xs,yX P N ops o=some x∧lT P N ops os=some xs∧l=x::xs:=by
 simp only [lT] at h
 split at h
 ·rename_i x xs h1 h2
  simp at h
  exact ⟨x,xs,h1,h2,h.symm⟩
 ·cases h
theorem JY {ops:Array Oper}:∀{os:List Oper} {l:List jo} {i:Nat} {K:(Nat→Value)→ae→Prop} {f:Nat→Value} {h:ae},(∀(k:Nat) (o:Oper),os[k]?=some o→ops[i+k]?=some o)→lT P N ops os=some l→tF P l K f h→
  ∃f' h',iA P N ops (range' i os.length) f h f' h'∧K f' h'
 | [],l,i,K,f,h,_,hc,hi=>by
  simp [lT] at hc
  subst hc
  exact ⟨f,h,iA.nil,hi⟩
 | o::os,l,i,K,f,h,qO,hc,hi=>by
  obtain ⟨x,xs,h1,h2,rfl⟩:=vL hc
  obtain ⟨q1,q2,q3,q4,q5⟩:=D3 h1
  have ho:ops[i]?=some o:=qO 0 o rfl
  have JL:∀(k:Nat) (o':Oper),os[k]?=some o'→ops[i+1+k]?=some o':=by
   intro k o' hk
   have:=qO (k+1) o' (by simpa using hk)
   rw [show i+(k+1)=i+1+k by omega] at this
   exact this
  have go:∀(_:sZ x.guard f) (_:jh x.guard f=true),dm P x.op f h (fun v h'=>tF P xs K (dO f x.dst v) h')→
    ∃f' h',iA P N ops (range' i (o::os).length) f h f' h'∧K f' h':=by
   intro hb hw hs
   obtain ⟨v,h',bD,hk⟩:=AP (N:=N) q3 q1 hs
   obtain ⟨Ed,aW,r1,r2⟩:=JY JL h2 hk
   refine ⟨Ed,aW,?_,r2⟩
   rw [length_cons,List.range'_succ]
   rw [q5] at r1
   exact iA.step ho q2 (fun B ρ a w R=>by rw [Gg q4 R hb,hw]) bD r1
  have skip:∀(_:sZ x.guard f) (_:jh x.guard f=false),tF P xs K (dO f x.dst undef) h→
    ∃f' h',iA P N ops (range' i (o::os).length) f h f' h'∧K f' h':=by
   intro hb hw hs
   obtain ⟨Ed,aW,r1,r2⟩:=JY JL h2 hs
   refine ⟨Ed,aW,?_,r2⟩
   rw [length_cons,List.range'_succ]
   rw [q5] at r1
   exact iA.pass ho q2 (fun B ρ a w R=>by rw [Gg q4 R hb,hw]) r1
  simp only [tF] at hi
  split at hi
  ·rename_i kU
   exact go (by rw [kU];trivial) (by rw [kU];rfl) hi
  ·rename_i s b kU
   obtain ⟨e1,e2⟩:=Ji hi
   rcases e2 with ⟨e2,e3⟩ | ⟨e2,e3⟩
   ·exact go (by rw [kU];exact e1) (by rw [kU];exact e2) e3
   ·exact skip (by rw [kU];exact e1) (by rw [kU];exact e2) e3
def qF (g:Option (Nat×Bool)) (l:List jA):List jo:=l.map fun o=>⟨o.dst,o.op,g⟩
def oE:List (Option (Nat×Bool)×List jA)→List jo
 | []=>[]
 | (g,l)::gs=>qF g l++oE gs
theorem I7:∀os:List jo,oE (uz os)=os
 | []=>rfl
 | o::os=>by
  have ih:=I7 os
  simp only [uz]
  cases hg:uz os with
  | nil=>
   rw [hg] at ih
   simp only [oE] at ih
   subst ih
   simp [oE,qF]
  | cons a gs=>
   obtain ⟨g,l⟩:=a
   rw [hg] at ih
   simp only
   split
   ·rename_i he
    simp only [oE,qF,map_cons,cons_append] at ih⊢
    rw [ih,←he]
   ·simp only [oE,qF,map_cons,List.map_nil,cons_append,List.nil_append] at ih⊢
    rw [ih]
theorem Rl {v:Value} {b:Bool} {A B:Prop} (hb:wE v=false) (hA:ra v b=true→A) (hB:ra v b=false→B):kP v b A B:=by
 unfold kP
 split
 ·split
  ·rename_i c hc;exact hA hc
  ·rename_i c hc;exact hB (by simpa [ra] using hc)
 ·simp [wE] at hb
 ·rename_i x h1 h2
  refine hB ?_
  cases v <;> first | rfl | exact absurd rfl (h1 _)
theorem ai1 {g:Option (Nat×Bool)} {K:(Nat→Value)→ae→Prop}:∀{l:List jA} {f:Nat→Value} {h:ae},(∀o∈l,leaves g o.dst=true)→tM P g l K f h→tF P (qF g l) K f h:=by
 intro l f h hl hk
 cases g with
 | none=>
  simp only [tM] at hk
  clear hl
  induction l generalizing f h with
  | nil=>exact hk
  | cons o l ih=>
   simp only [xK] at hk
   simp only [qF,map_cons,tF]
   have:dm P o.op f h (fun v h'=>tF P (qF none l) K (dO f o.dst v) h'):=by
    have mono:∀{io:iz} {K K':Value→ae→Prop},(∀v h,K v h→K' v h)→dm P io f h K→dm P io f h K':=by
     intro io K K' hm hs
     cases io with
     | p po=>simp only [dm,fS] at hs⊢;split at hs <;> first | exact hm _ _ hs | exact hs.elim
     | l lo=>simp only [dm,fS] at hs⊢;split at hs <;> first | exact hm _ _ hs | exact hs.elim
     | e eo=>simp only [dm,nY] at hs⊢;split at hs <;> first | exact hm _ _ hs | exact hs.elim
     | call g args=>exact hs.mono hm
     | lG x args=>simp only [dm,uf] at hs⊢;split at hs <;> first | exact ⟨hs.1,hs.2.mono hm⟩ | exact hs.elim
    exact mono (fun v h' cj=>ih cj) hk
   exact this
 | some sb=>
  obtain ⟨s,b⟩:=sb
  simp only [tM] at hk
  obtain ⟨e1,e2⟩:=Ji hk
  clear hk
  induction l generalizing f h with
  | nil=>
   rcases e2 with ⟨_,e⟩ | ⟨_,e⟩ <;> exact e
  | cons o l ih=>
   have hd:o.dst≠some s:=by simpa [leaves] using hl o (by simp)
   have hs:∀v,dO f o.dst v s=f s:=by
    intro v
    cases ho:o.dst with
    | none=>rfl
    | some d=>
     have:s≠d:=by rintro rfl;exact hd ho
     simp [dO,tS,this]
   simp only [qF,map_cons,tF]
   refine Rl e1 (fun hb=>?_) (fun hb=>?_)
   ·rcases e2 with ⟨_,e⟩ | ⟨e,_⟩
    ·simp only [xK] at e
     have mono:∀{io:iz} {K K':Value→ae→Prop},(∀v h,K v h→K' v h)→dm P io f h K→dm P io f h K':=by
      intro io K K' hm hs
      cases io with
      | p po=>simp only [dm,fS] at hs⊢;split at hs <;> first | exact hm _ _ hs | exact hs.elim
      | l lo=>simp only [dm,fS] at hs⊢;split at hs <;> first | exact hm _ _ hs | exact hs.elim
      | e eo=>simp only [dm,nY] at hs⊢;split at hs <;> first | exact hm _ _ hs | exact hs.elim
      | call g args=>exact hs.mono hm
      | lG x args=>simp only [dm,uf] at hs⊢;split at hs <;> first | exact ⟨hs.1,hs.2.mono hm⟩ | exact hs.elim
     refine mono (fun v h' cj=>?_) e
     exact ih (fun o' dS=>hl o' (by simp [dS])) (by rw [hs];exact e1) (.inl ⟨by rw [hs];exact hb,cj⟩)
    ·rw [hb] at e;cases e
   ·rcases e2 with ⟨e,_⟩ | ⟨_,e⟩
    ·rw [hb] at e;cases e
    ·exact ih (fun o' dS=>hl o' (by simp [dS])) (by rw [hs];exact e1) (.inr ⟨by rw [hs];exact hb,e⟩)
theorem Qo {ops:Array Oper}:∀{os:List Oper} {m0 m1:List jo},lT P N ops os=some (m0++m1)→∃mi gL,os=mi++gL∧lT P N ops mi=some m0∧lT P N ops gL=some m1
 | os,[],m1,h=>⟨[],os,rfl,rfl,h⟩
 | [],x::m0,m1,h=>by simp [lT] at h
 | o::os,x::m0,m1,h=>by
  obtain ⟨y,ys,h1,h2,he⟩:=vL h
  simp only [cons_append,List.cons.injEq] at he
  obtain ⟨rfl,rfl⟩:=he
  obtain ⟨mi,gL,rfl,e1,e2⟩:=Qo h2
  refine ⟨o::mi,gL,rfl,?_,e2⟩
  simp [lT,h1,e1]
theorem ac8 {ls:List Nat} {c:fx} {K:Exit→(Nat→Value)→ae→Prop} {f:Nat→Value} {h:ae} (hi:jv P (xD ls c) K f h):∃f',tU f' f∧jv P c K f' h:=by
 cases ls with
 | nil=>exact ⟨f,fun _=>.inl rfl,hi⟩
 | cons l ls=>exact ⟨_,Fy f (l::ls),hi⟩
theorem aEu {ops:Array Oper}:∀{gs:List (Option (Nat×Bool)×List jA)} {hs:Hints} {os:List Oper} {i:Nat} {K:Exit→(Nat→Value)→ae→Prop} {f:Nat→Value} {h:ae},
  (∀(k:Nat) (o:Oper),os[k]?=some o→ops[i+k]?=some o)→lT P N ops os=some (oE gs)→(∀g l,(g,l)∈gs→∀o∈l,leaves g o.dst=true)→jv P (rz gs hs).1 K f h→
  ∃f' h',iA P N ops (range' i os.length) f h f' h'∧K .normal f' h':=by
 intro gs
 induction gs with
 | nil=>
  intro hs os i K f h qO hc _ hi
  cases os with
  | nil=>exact ⟨f,h,iA.nil,hi⟩
  | cons o os=>
   obtain ⟨x,xs,_,_,he⟩:=vL hc
   simp [oE] at he
 | cons a gs ih=>
  obtain ⟨g,l⟩:=a
  intro hs os i K f h qO hc hl hi
  simp only [oE] at hc
  obtain ⟨mi,gL,rfl,c0,c1⟩:=Qo hc
  have JM:∀(k:Nat) (o:Oper),mi[k]?=some o→ops[i+k]?=some o:=by
   intro k o hk
   refine qO k o ?_
   rw [getElem?_append_left (bL hk).1]
   exact hk
  have R9:∀(k:Nat) (o:Oper),gL[k]?=some o→ops[i+mi.length+k]?=some o:=by
   intro k o hk
   rw [Nat.add_assoc]
   refine qO _ o ?_
   rw [List.getElem?_append_right (by omega)]
   simpa using hk
  have first:∀{K:(Nat→Value)→ae→Prop},tM P g l K f h→∃f' h',iA P N ops (range' i mi.length) f h f' h'∧K f' h':=by
   intro K hk
   exact JY JM c0 (ai1 (fun o ho=>hl g l (by simp) o ho) hk)
  have both:∀{cZ:Nat→Value} {h₁:ae} {f':Nat→Value} {h':ae},iA P N ops (range' i mi.length) f h cZ h₁→iA P N ops (range' (i+mi.length) gL.length) cZ h₁ f' h'→iA P N ops (range' i (mi++gL).length) f h f' h':=by
   intro cZ h₁ f' h' a b
   rw [List.length_append,←List.range'_append_1]
   exact a.append b
  have rest:∀{hs:Hints} {cZ:Nat→Value} {h₁:ae},jv P (rz gs hs).1 K cZ h₁→∃f' h',iA P N ops (range' (i+mi.length) gL.length) cZ h₁ f' h'∧K .normal f' h':=
   fun hk=>ih R9 c1 (fun g' l' hm=>hl g' l' (by simp [hm])) hk
  cases gs with
  | nil=>
   have EN:jv P (.ops g l) K f h:=by
    cases hs <;> exact hi
   obtain ⟨f',h',r1,r2⟩:=first EN
   have h1:gL=[]:=by
    cases gL with
    | nil=>rfl
    | cons o os=>obtain ⟨x,xs,_,_,he⟩:=vL c1;simp [oE] at he
   subst h1
   exact ⟨f',h',by simpa using r1,r2⟩
  | cons b gs=>
   cases hs with
   | nil=>
    obtain ⟨cZ,h₁,r1,r2⟩:=first (K:=fun f h=>jv P (rz (b::gs) []).1 K f h) hi
    obtain ⟨f',h',s1,s2⟩:=rest r2
    exact ⟨f',h',both r1 s1,s2⟩
   | cons h0 hs=>
    obtain ⟨cZ,h₁,r1,r2⟩:=first (K:=fun f h=>jv P (xD h0 (rz (b::gs) hs).1) K f h) hi
    obtain ⟨Q6,hw,r3⟩:=ac8 r2
    obtain ⟨f',h',s1,s2⟩:=rest r3
    exact ⟨f',h',both r1 (s1.weaken hw),s2⟩
def ri (S:Option Nat) (P:Program) (c:Code) (Q:Exit→Act→World→Prop) (a:Act) (w:World):Prop:=
 ∀(b:Frame) (k:List Item) (cs:List Frame),b.roundOf=S→
  ∃e a' w',Q e a' w'∧ArrivesIn (Machine.fenced P (FR S)) P (lone (b.atR a (.code c:: .inLoop c::k)) cs w) b k cs e a' w'
theorem FR.room (S:Option Nat) (n:Nat):(FR S).room n:=fun _ h=>by cases h
theorem ri.wp {S:Option Nat} {c:Code} {Q:Exit→Act→World→Prop} {a:Act} {w:World} (h:ri S P c Q a w):(Code.loop c).wpIn (FR S) 0 P Q a w:=by
 intro b k cs kV hb hr
 obtain ⟨e,a',w',q,r⟩:=h b k cs kV
 exact ⟨e,a',w',q,.of_steps (.one (fenced_calm hb hr rfl) stepR_loop) r⟩
theorem ri.round {S:Option Nat} {c:Code} {Q:Exit→Act→World→Prop} {a:Act} {w:World} (h:c.wpIn (FR S) 0 P (Exit.then (ri S P c Q) Q) a w):ri S P c Q a w:=by
 intro b k cs kV
 have hb:(FR S).fn b.fn:=trivial
 have hr:(FR S).room (cs.length+1+0):=FR.room S _
 obtain ⟨e,yR,oU,hq,xM⟩:=h b (.inLoop c::k) cs kV hb hr
 cases e with
 | normal=>
  obtain ⟨awE,arG,Mg,ax5,axd⟩:=hq b k cs kV
  exact ⟨awE,arG,Mg,ax5,.of_steps (StepsIn.trans xM (.one (fenced_calm hb hr rfl) stepR_inLoop)) axd⟩
 | exit id=>exact ⟨_,yR,oU,hq,.pass (x:=.inLoop c) rfl (fun _ _=>.inl (by simp)) xM⟩
 | goto l=>exact ⟨_,yR,oU,hq,.pass (x:=.inLoop c) rfl (fun _ _=>.inl (by simp)) xM⟩
 | ret=>exact ⟨_,yR,oU,hq,.pass (x:=.inLoop c) rfl (fun _ _=>.inl (by simp)) xM⟩
 | panic ch=>exact ⟨_,yR,oU,hq,.pass (x:=.inLoop c) rfl (fun _ _=>.inl (by simp)) xM⟩
 | outgrown=>exact ⟨_,yR,oU,hq,.pass (x:=.inLoop c) rfl (fun _ _=>.inl (by simp)) xM⟩
theorem agl {l:List jo} (h:l.all (fun o=>leaves o.guard o.dst)=true):∀g m,(g,m)∈uz l→∀o∈m,leaves g o.dst=true:=by
 intro g m hm o ho
 have se:(⟨o.dst,o.op,g⟩:jo)∈oE (uz l):=by
  generalize uz l=gs at hm
  induction gs with
  | nil=>simp at hm
  | cons a gs ih=>
   obtain ⟨g',m'⟩:=a
   simp only [oE,List.mem_append]
   rcases mem_cons.1 hm with he | hm
   ·cases he
    left
    simp only [qF,mem_map]
    exact ⟨o,ho,rfl⟩
   ·exact .inr (ih hm)
 rw [I7] at se
 rw [all_eq_true] at h
 exact h _ se
def qA (P:Program) (N:Nat) (out:Bool) (c:Code) (f:Nat→Value) (h:ae) (e:Exit) (f':Nat→Value) (h':ae):Prop:=
 ∀S,(out=true→S=none)→∀B ρ a w,eJ P N B ρ f h a w→ri S P c (yI P N B ρ h w e f' h') a w
theorem ri.mono {S:Option Nat} {c:Code} {Q Q':Exit→Act→World→Prop} {a:Act} {w:World} (h:ri S P c Q a w) (hq:∀e a w,Q e a w→Q' e a w):ri S P c Q' a w:=
 fun b k cs kV=>let ⟨e,a',w',q,r⟩:=h b k cs kV;⟨e,a',w',hq _ _ _ q,r⟩
theorem yI.trans {B:Nat} {ρ nJ:aK} {h h₁ h':ae} {w oU:World} {e:Exit} {f':Nat→Value} (T:Tr ρ h w nJ h₁ oU):∀e' a' w',yI P N B nJ h₁ oU e f' h' e' a' w'→yI P N B ρ h w e f' h' e' a' w':=by
 rintro e' a' w' ⟨rfl,av,R,T'⟩
 exact ⟨rfl,av,R,T.trans T'⟩
variable {out : Bool}
theorem qA.next {c:Code} {f cZ f':Nat→Value} {h h₁ h':ae} {e:Exit} (a:gZ P N out c f h .normal cZ h₁) (b:qA P N out c cZ h₁ e f' h'):qA P N out c f h e f' h':=by
 intro S hS B ρ ac w R
 refine ri.round (wpIn_mono (a S hS B ρ ac w R) ?_)
 rintro e' a' w' ⟨rfl,av,R',T⟩
 exact (b S hS B av a' w' R').mono (yI.trans T)
theorem qA.leave {c:Code} {f f':Nat→Value} {h h':ae} {e:Exit} (he:e≠ .normal) (a:gZ P N out c f h e f' h'):qA P N out c f h e f' h':=by
 intro S hS B ρ ac w R
 refine ri.round (wpIn_mono (a S hS B ρ ac w R) ?_)
 rintro e' a' w' ⟨rfl,av,R',T⟩
 cases e' <;> first | exact absurd rfl he | exact ⟨rfl,av,R',T⟩
theorem qA.run {c:Code} {f f':Nat→Value} {h h':ae} {e:Exit} (a:qA P N out c f h e f' h'):gZ P N out (.loop c) f h e f' h':=fun S hS B ρ ac w R=>(a S hS B ρ ac w R).wp
theorem gZ.seq {x y:Code} {f cZ f':Nat→Value} {h h₁ h':ae} {e:Exit} (a:gZ P N out x f h .normal cZ h₁) (b:gZ P N out y cZ h₁ e f' h'):gZ P N out (.seq x y) f h e f' h':=by
 intro S hS B ρ ac w R
 refine wpIn_seq (wpIn_mono (a S hS B ρ ac w R) ?_)
 rintro e' a' w' ⟨rfl,av,R',T⟩
 exact wpIn_mono (b S hS B av a' w' R') (yI.trans T)
theorem gZ.aFh {x y:Code} {f f':Nat→Value} {h h':ae} {e:Exit} (he:e≠ .normal) (a:gZ P N out x f h e f' h'):gZ P N out (.seq x y) f h e f' h':=by
 intro S hS B ρ ac w R
 refine wpIn_seq (wpIn_mono (a S hS B ρ ac w R) ?_)
 rintro e' a' w' ⟨rfl,av,R',T⟩
 cases e' <;> first | exact absurd rfl he | exact ⟨rfl,av,R',T⟩
theorem gZ.block {id:Nat} {c:Code} {f f':Nat→Value} {h h':ae} {e:Exit} (a:gZ P N out c f h e f' h'):gZ P N out (.block id c) f h (match e with | .exit i=>if i=id then .normal else .exit i | e=>e) f' h':=by
 intro S hS B ρ ac w R
 refine wpIn_block (wpIn_mono (a S hS B ρ ac w R) ?_)
 rintro e' a' w' ⟨rfl,av,R',T⟩
 cases e' with
 | exit i=>
  simp only [Exit.inBlock]
  split
  ·exact ⟨rfl,av,R',T⟩
  ·exact ⟨rfl,av,R',T⟩
 | _=>exact ⟨rfl,av,R',T⟩
theorem gZ.cond {c:Operand} {x y:Code} {t:Bool} {f f':Nat→Value} {h h':ae} {e:Exit} (hc:jM c=true) (ht:ev f c=.bool t) (a:gZ P N out (if t then x else y) f h e f' h'):gZ P N out (.cond c x y) f h e f' h':=by
 intro S hS B ρ ac w R
 have:=R.ev hc
 rw [ht] at this
 exact wpIn_cond this.yV (a S hS B ρ ac w R)
theorem gZ.region {id:Nat} {ops:Array Oper} {f f':Nat→Value} {h h':ae} (a:iA P N ops (List.range ops.size) f h f' h'):gZ P N out (.region id ops false) f h .normal f' h':=by
 intro S hS B ρ ac w R
 refine wpIn_region (a S B ρ ac w R _ ?_)
 intro av a' w' R' T
 exact ⟨rfl,av,R',T⟩
theorem qA.weaken {c:Code} {f cZ f':Nat→Value} {h h':ae} {e:Exit} (hw:tU cZ f) (hr:qA P N out c cZ h e f' h'):qA P N out c f h e f' h':=
 fun S hS B ρ a w R=>hr S hS B ρ a w (R.weaken hw)
end
end
section
inductive yN (ops:Array Oper):List Nat→List Nat→Prop
 | nil {S:List Nat}:(∀i,i<ops.size→i∈S)→yN ops S []
 | cons {S:List Nat} {i:Nat} {o:Oper} {l:List Nat}:ops[i]?=some o→i∉S→(∀e∈fN o,e∈S)→yN ops (i::S) l→yN ops S (i::l)
theorem G8:∀{ops:List Oper} {i:Nat},yT ops i=true→∀(k:Nat) (o:Oper),ops[k]?=some o→∀e∈fN o,e<i+k
 | [],i,_,k,o,hk=>by simp at hk
 | x::ops,i,h,k,o,hk=>by
  simp only [yT,and_eq_true,all_eq_true,decide_eq_true_eq] at h
  cases k with
  | zero=>simp at hk;subst hk;exact h.1
  | succ k=>
   intro e he
   have:=G8 h.2 k o (by simpa using hk) e he
   omega
def ready (ops:Array Oper) (iN:Array Bool) (i:Nat):Bool:=
 !iN.getD i true&&((ops[i]?).map (·.after.all fun e=> !Region.binds .any e||iN.getD e.on false)).getD false
theorem aw4 (ops:Array Oper) (fuel t:Nat) (iN:Array Bool) (acc:List Nat):
  Region.linearise.go .any ops (fuel+1) t iN acc=
   match ((List.range ops.size).filter (ready ops iN))[t%((List.range ops.size).filter (ready ops iN)).length]? with
   | some i=>Region.linearise.go .any ops fuel (t / ((List.range ops.size).filter (ready ops iN)).length) (iN.setIfInBounds i true) (i::acc)
   | none=>acc.reverse:=by
 rw [Region.linearise.go]
 rfl
theorem amS {ops:Array Oper} {iN:Array Bool} {S:List Nat} (hl:iN.size=ops.size) (hS:∀i,i<ops.size→(iN.getD i false=true↔i∈S)) (hb:∀(k:Nat) (o:Oper),ops[k]?=some o→∀e∈fN o,e<k)
  {i:Nat} (hi:i<ops.size):ready ops iN i=true↔i∉S∧∀o,ops[i]?=some o→∀e∈fN o,e∈S:=by
 have ho:ops[i]?=some ops[i]:=by simp [hi]
 have e1:iN.getD i true=iN.getD i false:=by simp [Array.getD,hl,hi]
 unfold ready
 rw [e1,ho]
 simp only [map_some,getD_some,and_eq_true,Bool.not_eq_true',Option.some.injEq,forall_eq']
 have h1:iN.getD i false=false↔i∉S:=by
  rw [←hS i hi]
  cases iN.getD i false <;> simp
 rw [h1]
 refine and_congr_right fun _=>?_
 rw [Array.all_eq_true']
 constructor
 ·intro h e he
  have aD:=hb i _ ho e he
  unfold fN at he
  simp only [List.mem_filterMap] at he
  obtain ⟨x,hx,yj⟩:=he
  split at yj
  ·rename_i B1
   simp at yj
   subst yj
   have:=h x (by simpa using hx)
   simp only [or_eq_true,Bool.not_eq_true',B1] at this
   exact (hS _ (by omega)).1 (by simpa using this)
  ·cases yj
 ·intro h x hx
  cases B1:Region.binds .any x with
  | false=>simp
  | true=>
   have hm:x.on∈fN ops[i]:=by
    unfold fN
    simp only [List.mem_filterMap]
    exact ⟨x,by simpa using hx,by simp [B1]⟩
   have aD:=hb i _ ho _ hm
   simp [(hS x.on (by omega)).2 (h _ hm)]
theorem Kt:∀{l m:List Nat},l.Nodup→l ⊆ m→l.length≤m.length
 | [],m,_,_=>by simp
 | x::l,m,hd,hs=>by
  have hx:x∈m:=hs (by simp)
  rw [nodup_cons] at hd
  have h1:l ⊆ m.erase x:=by
   intro y hy
   have bp:y≠x:=by rintro rfl;exact hd.1 hy
   exact (List.mem_erase_of_ne bp).2 (hs (by simp [hy]))
  have h2:=Kt hd.2 h1
  rw [List.length_erase_of_mem hx] at h2
  have:0<m.length:=List.length_pos_of_mem hx
  simp
  omega
theorem avp {n:Nat} {S:List Nat} (hlen:S.length<n):∃i,i<n∧i∉S∧∀k,k<i→k∈S:=by
 have hex:∃i,i<n∧i∉S:=by
  apply byContradiction
  intro dh
  have fA:∀i,i<n→i∈S:=fun i hi=>byContradiction fun h=>dh ⟨i,hi,h⟩
  have sk:List.range n ⊆ S:=fun i hi=>fA i (mem_range.1 hi)
  have:=Kt (List.nodup_range (n:=n)) sk
  simp at this
  omega
 have key:∀m,(∃i,i<m∧i<n∧i∉S)→∃i,i<n∧i∉S∧∀k,k<i→k∈S:=by
  intro m
  induction m with
  | zero=>rintro ⟨i,h,_⟩;omega
  | succ m ih=>
   rintro ⟨i,h1,h2,h3⟩
   by_cases eQ:∃i,i<m∧i<n∧i∉S
   ·exact ih eQ
   ·have fk:i=m:=by
     by_cases e:i=m
     ·exact e
     ·exact absurd ⟨i,by omega,h2,h3⟩ eQ
    subst fk
    refine ⟨i,h2,h3,fun k hk=>byContradiction fun EG=>eQ ⟨k,hk,by omega,EG⟩⟩
 obtain ⟨i,h1,h2⟩:=hex
 exact key n ⟨i,h1,h1,h2⟩
theorem ad2 {ops:Array Oper} (hb:∀(k:Nat) (o:Oper),ops[k]?=some o→∀e∈fN o,e<k):∀(fuel t:Nat) (iN:Array Bool) (acc:List Nat),iN.size=ops.size→
  (∀i,i<ops.size→(iN.getD i false=true↔i∈acc))→acc.Nodup→(∀i∈acc,i<ops.size)→acc.length+fuel=ops.size→
  ∃l,Region.linearise.go .any ops fuel t iN acc=acc.reverse++l∧yN ops acc l
 | 0,t,iN,acc,hl,hS,hd,aD,hf=>by
  refine ⟨[],by simp [Region.linearise.go],.nil ?_⟩
  intro i hi
  apply byContradiction
  intro h
  have sk:(i::acc) ⊆ List.range ops.size:=by
   intro x hx
   rcases mem_cons.1 hx with rfl | hx
   ·simpa using hi
   ·simpa using aD x hx
  have:=Kt (nodup_cons.2 ⟨h,hd⟩) sk
  simp at this
  omega
 | fuel+1,t,iN,acc,hl,hS,hd,aD,hf=>by
  rw [aw4]
  obtain ⟨i0,Ca,axw,axv⟩:=avp (n:=ops.size) (S:=acc) (by omega)
  have qS:ready ops iN i0=true:=(amS hl hS hb Ca).2 ⟨axw,fun o ho e he=>axv e (hb i0 o ho e he)⟩
  have hY:0<((List.range ops.size).filter (ready ops iN)).length:=List.length_pos_of_mem (mem_filter.2 ⟨mem_range.2 Ca,qS⟩)
  have bX:∃i,((List.range ops.size).filter (ready ops iN))[t%((List.range ops.size).filter (ready ops iN)).length]?=some i:=⟨_,getElem?_eq_getElem (Nat.mod_lt _ hY)⟩
  obtain ⟨i,hi⟩:=bX
  rw [hi]
  have se:=mem_of_getElem? hi
  simp only [mem_filter,mem_range] at se
  obtain ⟨fc,aye⟩:=se
  obtain ⟨wo,zJ⟩:=(amS hl hS hb fc).1 aye
  obtain ⟨l,h1,h2⟩:=ad2 hb fuel (t / ((List.range ops.size).filter (ready ops iN)).length) (iN.setIfInBounds i true) (i::acc) (by simpa using hl) (by
   intro k hk
   by_cases e:k=i
   ·subst e;simp [Array.getD,hl,hk]
   ·have:(iN.setIfInBounds i true).getD k false=iN.getD k false:=by
     simp only [Array.getD_eq_getD_getElem?,Array.getElem?_setIfInBounds]
     rw [if_neg (Ne.symm e)]
    rw [this,hS k hk]
    simp [e]) (nodup_cons.2 ⟨wo,hd⟩) (by
   intro k hk
   rcases mem_cons.1 hk with rfl | hk
   ·exact fc
   ·exact aD k hk) (by simp;omega)
  refine ⟨i::l,by simp only [h1];simp,?_⟩
  exact .cons (o:=ops[i]) (by simp [fc]) wo (zJ _ (by simp [fc])) h2
theorem ago {ops:Array Oper} (hb:yT ops.toList 0=true) (t:Nat):yN ops [] (Region.linearise .any ops t):=by
 have kR:∀(k:Nat) (o:Oper),ops[k]?=some o→∀e∈fN o,e<k:=by
  intro k o hk e he
  have:=G8 hb k o (by simpa using hk) e he
  omega
 obtain ⟨l,h1,h2⟩:=ad2 kR ops.size t (replicate ops.size false) [] (by simp) (by intro i hi;simp [Array.getD,hi]) .nil (by simp) (by simp)
 have:Region.linearise .any ops t=l:=by
  unfold Region.linearise
  rw [h1]
  simp
 rw [this]
 exact h2
end
section
theorem QO {f f':Nat→Value}:∀{l:List Operand},(∀t∈tmpsOf l,f t=f' t)→∀x∈l,ev f x=ev f' x
 | [],_,x,hx=>by simp at hx
 | y::l,h,x,hx=>by
  have h':∀t∈tmpsOf l,f t=f' t:=by
   intro t ht
   apply h
   cases y <;> simp [tmpsOf,ht]
  rcases mem_cons.1 hx with rfl | hx
  ·cases x with
   | tmp t=>exact h t (by simp [tmpsOf])
   | _=>rfl
  ·exact QO h' x hx
theorem Fm {g g':Operand→Value} {xs:List Operand} (h:∀x∈xs,g x=g' x):xs.map g=xs.map g':=List.map_congr_left h
theorem KB {g g':Operand→Value} {x:Option Operand} (h:∀y∈x.toList,g y=g' y):x.map g=x.map g':=by
 cases x with
 | none=>rfl
 | some y=>simp [h y (by simp)]
theorem K9 {g g':Operand→Value} {ps:List (Nat×Nat×Operand)} (h:∀x∈ps.map (·.2.2),g x=g' x):(ps.map fun (o,s,x)=>(o,s,g x))=ps.map fun (o,s,x)=>(o,s,g' x):=by
 apply List.map_congr_left
 rintro ⟨o,s,x⟩ hx
 simp [h x (by simp;exact ⟨o,s,hx⟩)]
theorem ayW {o:qC} {g g':Operand→Value} (h:∀x∈o.iI,g x=g' x):jK o g=jK o g':=by
 cases o with
 | Fo mx xs=>
  simp only [jK]
  rw [Fm (xs:=xs) h]
 | LG x lo hi=>
  simp only [jK,qC.iI] at*
  rw [h x (by simp),KB (x:=lo) (fun y hy=>h y (by simp at hy⊢;exact .inr (.inl hy))),KB (x:=hi) (fun y hy=>h y (by simp at hy⊢;exact .inr (.inr hy)))]
 | LH e s x lo hi=>
  simp only [jK,qC.iI] at*
  rw [h x (by simp),KB (x:=lo) (fun y hy=>h y (by simp at hy⊢;exact .inr (.inl hy))),KB (x:=hi) (fun y hy=>h y (by simp at hy⊢;exact .inr (.inr hy)))]
 | fn f first captured=>
  simp only [jK,qC.iI] at*
  rw [Fm (xs:=first) (fun x hx=>h x (by simp [hx])),Fm (xs:=captured) (fun x hx=>h x (by simp [hx]))]
 | build zero parts=>
  simp only [jK]
  rw [K9 (ps:=parts) h]
 | _=>simp [qC.iI] at h;simp [jK,h]
theorem ayT {o:pK} {g g':Operand→Value} (h:∀x∈o.iI,g x=g' x) (H:ae):fR o g H=fR o g' H:=by
 cases o <;> simp [pK.iI] at h <;> simp [fR,h]
theorem ayQ {o:pJ} {g g':Operand→Value} (h:∀x∈o.iI,g x=g' x) (H:ae):gw o g H=gw o g' H:=by
 cases o with
 | nX e n zs ps=>
  simp only [gw]
  rw [K9 (ps:=ps) h]
 | fl a=>
  cases a with
  | nX e n zs ps=>
   simp only [gw]
   rw [K9 (ps:=ps) h]
  | _=>simp [pJ.iI,ng.iI] at h;simp [gw,h]
 | _=>simp [pJ.iI] at h;simp [gw,h]
theorem LP {P:Program} {io:iz} {f f':Nat→Value} {h:ae} {K:Value→ae→Prop} (hf:∀t∈tmpsOf io.iI,f t=f' t):dm P io f h K↔dm P io f' h K:=by
 have he:=QO hf
 cases io with
 | p o=>simp only [dm];rw [ayW he]
 | l o=>simp only [dm];rw [ayT he]
 | e o=>simp only [dm];rw [ayQ he]
 | call g args=>
  simp only [dm]
  rw [Fm (xs:=args) he]
 | lG x args=>simp only [dm];rw [he x (by simp [iz.iI]),Fm (xs:=args) (fun y hy=>he y (by simp [iz.iI,hy]))]
structure Trace (P:Program) (l:List cY) (j0:Nat) (F:Nat→Nat→Value) (H:Nat→ae) (V:Nat→Value):Prop where
 yy:∀k o,l[k]?=some o→F (j0+k+1)=dO (F (j0+k)) o.op.dst (V (j0+k))
 Rh:∀k o,l[k]?=some o→sZ o.op.guard (F (j0+k))
 yes:∀k o,l[k]?=some o→jh o.op.guard (F (j0+k))=true→dm P o.op.op (F (j0+k)) (H (j0+k)) fun v h'=>v=V (j0+k)∧h'=H (j0+k+1)
 no:∀k o,l[k]?=some o→jh o.op.guard (F (j0+k))=false→V (j0+k)=undef∧H (j0+k+1)=H (j0+k)
 Vp:∀e oe k ok lo,l[e]?=some oe→oe.op.op.dN=true→l[k]?=some ok→ok.op.op=.l lo→jh ok.op.guard (F (j0+k))=true→e<k→ok.pre.testBit (j0+e)=false→
  fR lo (ev (F (j0+k))) (H (j0+e))=some (V (j0+k))
 Q5:∀k ok lo e oe,l[k]?=some ok→ok.op.op=.l lo→jh ok.op.guard (F (j0+k))=true→l[e]?=some oe→oe.op.op.dN=true→k<e→oe.pre.testBit (j0+k)=false→
  fR lo (ev (F (j0+k))) (H (j0+e+1))=some (V (j0+k))
 flo:∀k ok a,l[k]?=some ok→ok.op.op=.e (.fl a)→jh ok.op.guard (F (j0+k))=true→∃u,eC (H (j0+k+1)) (V (j0+k))=some u∧
  ∀e oe,l[e]?=some oe→oe.op.op.dN=true→k<e→oe.pre.testBit (j0+k)=false→eC (H (j0+e+1)) (V (j0+k))=some u
theorem Qk {pre:Nat} {lo:pK} {f:Nat→Value} {v:Value}:∀{hs:List (Nat×ae)},xz pre lo f v hs→∀e H,(e,H)∈hs→pre.testBit e=false→fR lo (ev f) H=some v
 | [],_,e,H,hm,_=>by simp at hm
 | (e',H')::r,h,e,H,hm,hp=>by
  simp only [xz] at h
  rcases mem_cons.1 hm with hq | hm
  ·cases hq
   rw [if_neg (by rw [hp];simp)] at h
   exact h.1
  ·split at h
   ·exact Qk h e H hm hp
   ·exact Qk h.2 e H hm hp
theorem DY {pre:Nat} {H:ae}:∀{ls:fh},lR pre H ls→∀j lo f v,(j,lo,f,v)∈ls→pre.testBit j=false→fR lo (ev f) H=some v
 | [],_,j,lo,f,v,hm,_=>by simp at hm
 | (j',pE,f',v')::r,h,j,lo,f,v,hm,hp=>by
  simp only [lR] at h
  rcases mem_cons.1 hm with hq | hm
  ·cases hq
   rw [if_neg (by rw [hp];simp)] at h
   exact h.1
  ·split at h
   ·exact DY h j lo f v hm hp
   ·exact DY h.2 j lo f v hm hp
def Dz (P:Program) (l:List cY) (j:Nat) (aN:List (Nat×ae)) (aI:fh) (K:(Nat→Value)→ae→Prop) (f:Nat→Value) (h:ae):Prop:=
 ∃F H V,F j=f∧H j=h∧K (F (j+l.length)) (H (j+l.length))∧Trace P l j F H V∧
  (∀e Hh,(e,Hh)∈aN→∀k ok lo,l[k]?=some ok→ok.op.op=.l lo→jh ok.op.guard (F (j+k))=true→ok.pre.testBit e=false→fR lo (ev (F (j+k))) Hh=some (V (j+k)))∧
  (∀i lo ff v,(i,lo,ff,v)∈aI→∀e oe,l[e]?=some oe→oe.op.op.dN=true→oe.pre.testBit i=false→fR lo (ev ff) (H (j+e+1))=some v)
theorem SX {P:Program}:∀{l:List cY} {j:Nat} {aN:List (Nat×ae)} {aI:fh} {K:(Nat→Value)→ae→Prop} {f:Nat→Value} {h:ae},lL P l j aN aI K f h→Dz P l j aN aI K f h
 | [],j,aN,aI,K,f,h,hi=>
  ⟨fun _=>f,fun _=>h,fun _=>undef,rfl,rfl,hi,⟨fun k o hk=>by simp at hk,fun k o hk=>by simp at hk,fun k o hk=>by simp at hk,fun k o hk=>by simp at hk,fun e oe k ok lo hk=>by simp at hk,fun k ok lo e oe hk=>by simp at hk,fun k ok a hk=>by simp at hk⟩,
   fun e Hh hm k ok lo hk=>by simp at hk,fun i lo ff v hm e oe hk=>by simp at hk⟩
 | o::os,j,aN,aI,K,f,h,hi=>by
  -- gN rest,and how gN first step is laid ahead of it
  have key:∀(v:Value) (h':ae) (pY:List (Nat×ae)) (pF:fh),sZ o.op.guard f→lL P os (j+1) pY pF K (dO f o.op.dst v) h'→
    (∀p∈aN,p∈pY)→(∀p∈aI,p∈pF)→(o.op.op.dN=true→(j,h)∈pY)→(∀lo,o.op.op=.l lo→jh o.op.guard f=true→(j,lo,f,v)∈pF)→
    (jh o.op.guard f=true→dm P o.op.op f h fun u g=>u=v∧g=h')→(jh o.op.guard f=false→v=undef∧h'=h)→
    (∀lo,o.op.op=.l lo→jh o.op.guard f=true→∀e Hh,(e,Hh)∈aN→o.pre.testBit e=false→fR lo (ev f) Hh=some v)→
    (o.op.op.dN=true→∀i lo ff u,(i,lo,ff,u)∈aI→o.pre.testBit i=false→fR lo (ev ff) h'=some u)→
    (∀a,o.op.op=.e (.fl a)→jh o.op.guard f=true→∃u,eC h' v=some u∧(j,.obj (.const v),f,u)∈pF)→
    Dz P (o::os) j aN aI K f h:=by
   intro v h' pY pF kT Sm hh hl hE hL hy hn hp hf th
   obtain ⟨F,H,V,f1,f2,f3,T,fp,ff⟩:=SX Sm
   have KD:∀{α:Type} (x:α) (G:Nat→α),∃G2:Nat→α,G2 j=x∧(∀k,G2 (j+k+1)=G (j+1+k))∧∀k,G2 (j+(k+1))=G (j+1+k):=by
    intro α x G
    refine ⟨fun k=>if k=j then x else G k,by simp,fun k=>?_,fun k=>?_⟩
    ·show (if j+k+1=j then x else G (j+k+1))=_
     rw [if_neg (by omega)]
     congr 1
     omega
    ·show (if j+(k+1)=j then x else G (j+(k+1)))=_
     rw [if_neg (by omega)]
     congr 1
     omega
   obtain ⟨F2,vQ,eF1,eF⟩:=KD f F
   obtain ⟨H2,IT,xG,eH⟩:=KD h H
   obtain ⟨V2,zf,eV1,eV⟩:=KD v V
   have awh:F2 (j+1)=F (j+1):=eF1 0
   have IU:H2 (j+1)=H (j+1):=xG 0
   refine ⟨F2,H2,V2,vQ,IT,?_,?_,?_,?_⟩
   ·rw [length_cons,eF,eH]
    exact f3
   ·constructor
    ·intro k ok hk
     cases k with
     | zero=>
      simp at hk;subst hk
      simp only [add_zero]
      rw [awh,vQ,zf]
      exact f1
     | succ k=>
      have:=T.yy k ok (by simpa using hk)
      rw [eF1,eF,eV,show j+1+(k+1)=j+1+k+1 by omega]
      exact this
    ·intro k ok hk
     cases k with
     | zero=>
      simp at hk;subst hk
      simp only [add_zero]
      rw [vQ]
      exact kT
     | succ k=>
      rw [eF]
      exact T.Rh k ok (by simpa using hk)
    ·intro k ok hk hw
     cases k with
     | zero=>
      simp at hk;subst hk
      simp only [add_zero] at hw⊢
      rw [vQ] at hw
      rw [IU,vQ,IT,zf,f2]
      exact hy hw
     | succ k=>
      rw [eF] at hw
      rw [xG,eF,eH,eV,show j+1+(k+1)=j+1+k+1 by omega]
      exact T.yes k ok (by simpa using hk) hw
    ·intro k ok hk hw
     cases k with
     | zero=>
      simp at hk;subst hk
      simp only [add_zero] at hw⊢
      rw [vQ] at hw
      rw [IU,IT,zf,f2]
      exact hn hw
     | succ k=>
      rw [eF] at hw
      rw [xG,eH,eV,show j+1+(k+1)=j+1+k+1 by omega]
      exact T.no k ok (by simpa using hk) hw
    ·intro e oe k ok lo he gh hk eQ hw aD iE
     cases k with
     | zero=>omega
     | succ k=>
      rw [eF] at hw⊢
      rw [eV]
      cases e with
      | zero=>
       simp at he;subst he
       simp only [add_zero] at iE⊢
       rw [IT]
       exact fp j h (hE gh) k ok lo (by simpa using hk) eQ hw iE
      | succ e=>
       rw [eH]
       rw [show j+(e+1)=j+1+e by omega] at iE
       exact T.Vp e oe k ok lo (by simpa using he) gh (by simpa using hk) eQ hw (by omega) iE
    ·intro k ok lo e oe hk eQ hw he gh aD iE
     cases e with
     | zero=>omega
     | succ e=>
      rw [xG,show j+1+(e+1)=j+1+e+1 by omega]
      cases k with
      | zero=>
       simp at hk;subst hk
       simp only [add_zero] at hw iE⊢
       rw [vQ] at hw⊢
       rw [zf]
       exact ff j lo f v (hL lo eQ hw) e oe (by simpa using he) gh iE
      | succ k=>
       rw [eF] at hw⊢
       rw [eV]
       rw [show j+(k+1)=j+1+k by omega] at iE
       exact T.Q5 k ok lo e oe (by simpa using hk) eQ hw (by simpa using he) gh (by omega) iE
    ·intro k ok a hk de hw
     cases k with
     | zero=>
      simp at hk;subst hk
      simp only [add_zero] at hw⊢
      rw [vQ] at hw
      obtain ⟨u,u1,u2⟩:=th a de hw
      refine ⟨u,by rw [IU,zf,f2];exact u1,?_⟩
      intro e oe he gh aD iE
      cases e with
      | zero=>omega
      | succ e=>
       rw [xG,show j+1+(e+1)=j+1+e+1 by omega,zf]
       exact ff j (.obj (.const v)) f u u2 e oe (by simpa using he) gh iE
     | succ k=>
      rw [eF] at hw
      obtain ⟨u,u1,u2⟩:=T.flo k ok a (by simpa using hk) de hw
      refine ⟨u,by rw [xG,eV,show j+1+(k+1)=j+1+k+1 by omega];exact u1,?_⟩
      intro e oe he gh aD iE
      cases e with
      | zero=>omega
      | succ e=>
       rw [xG,show j+1+(e+1)=j+1+e+1 by omega,eV]
       rw [show j+(k+1)=j+1+k by omega] at iE
       exact u2 e oe (by simpa using he) gh (by omega) iE
   ·intro e Hh hm k ok lo hk eQ hw iE
    cases k with
    | zero=>
     simp at hk;subst hk
     simp only [add_zero] at hw⊢
     rw [vQ] at hw⊢
     rw [zf]
     exact hp lo eQ hw e Hh hm iE
    | succ k=>
     rw [eF] at hw⊢
     rw [eV]
     exact fp e Hh (hh _ hm) k ok lo (by simpa using hk) eQ hw iE
   ·intro i lo ff' u hm e oe he gh iE
    cases e with
    | zero=>
     simp at he;subst he
     simp only [add_zero]
     rw [IU,f2]
     exact hf gh i lo ff' u hm iE
    | succ e=>
     rw [xG,show j+1+(e+1)=j+1+e+1 by omega]
     exact ff i lo ff' u (hl _ hm) e oe (by simpa using he) gh iE
  have go:sZ o.op.guard f→jh o.op.guard f=true→lH P o.op.op o.pre j aN aI f h (fun aN aI v h'=>lL P os (j+1) aN aI K (dO f o.op.dst v) h')→Dz P (o::os) j aN aI K f h:=fun kT hw hd=>by
   have QE:o.op.op.dN=true→(∀a,o.op.op≠ .e (.fl a))→dm P o.op.op f h (fun v h'=>lR o.pre h' aI∧lL P os (j+1) (aN++[(j,h)]) aI K (dO f o.op.dst v) h')→Dz P (o::os) j aN aI K f h:=fun hE sf hs=>by
    have zU:∀lo,o.op.op≠ .l lo:=by intro lo e;rw [e] at hE;cases hE
    have ex:∃v h',dm P o.op.op f h (fun u g=>u=v∧g=h')∧lR o.pre h' aI∧lL P os (j+1) (aN++[(j,h)]) aI K (dO f o.op.dst v) h':=by
     generalize o.op.op=io at hs⊢
     cases io with
     | p po=>
      simp only [dm,fS] at hs⊢
      split at hs
      ·exact ⟨_,_,⟨rfl,rfl⟩,hs⟩
      ·exact hs.elim
     | l lo=>
      simp only [dm,fS] at hs⊢
      split at hs
      ·exact ⟨_,_,⟨rfl,rfl⟩,hs⟩
      ·exact hs.elim
     | e eo=>
      simp only [dm,nY] at hs⊢
      split at hs
      ·exact ⟨_,_,⟨rfl,rfl⟩,hs⟩
      ·exact hs.elim
     | call g args=>
      obtain ⟨v,h',hc,hk⟩:=hs
      exact ⟨v,h',⟨v,h',hc,rfl,rfl⟩,hk⟩
     | lG x args=>
      simp only [dm,uf] at hs⊢
      split at hs
      ·obtain ⟨nt,v,h',hc,hk⟩:=hs
       exact ⟨v,h',⟨nt,v,h',hc,rfl,rfl⟩,hk⟩
      ·obtain ⟨nt,v,h',hc,hk⟩:=hs
       exact ⟨v,h',⟨nt,v,h',hc,rfl,rfl⟩,hk⟩
      ·exact hs.elim
    obtain ⟨v,h',s1,s2,s3⟩:=ex
    exact key v h' _ _ kT s3 (fun p hp=>by simp [hp]) (fun p hp=>hp) (fun _=>by simp) (fun lo e=>absurd e (zU lo)) (fun _=>s1) (fun hf=>by rw [hw] at hf;cases hf) (fun lo e=>absurd e (zU lo))
     (fun _ i lo ff u hm iE=>DY s2 i lo ff u hm iE) (fun a e=>absurd e (sf a))
   cases de:o.op.op with
   | p po=>
    rw [de] at hd
    simp only [lH,fS] at hd
    split at hd
    ·rename_i v hv
     exact key v h _ _ kT hd (fun p hp=>hp) (fun p hp=>hp) (fun hE=>by rw [de] at hE;cases hE) (fun lo e=>by rw [de] at e;cases e) (fun _=>by rw [de];simp [dm,fS,hv]) (fun hf=>by rw [hw] at hf;cases hf)
      (fun lo e=>by rw [de] at e;cases e) (fun hE=>by rw [de] at hE;cases hE) (fun a e=>by rw [de] at e;cases e)
    ·exact hd.elim
   | l lo=>
    rw [de] at hd
    simp only [lH,fS] at hd
    split at hd
    ·rename_i v hv
     exact key v h _ _ kT hd.2 (fun p hp=>hp) (fun p hp=>by simp [hp]) (fun hE=>by rw [de] at hE;cases hE) (fun pE e _=>by rw [de] at e;cases e;simp) (fun _=>by rw [de];simp [dm,fS,hv]) (fun hf=>by rw [hw] at hf;cases hf)
      (fun pE e _ e' Hh hm iE=>by rw [de] at e;cases e;exact Qk hd.1 e' Hh hm iE) (fun hE=>by rw [de] at hE;cases hE) (fun a e=>by rw [de] at e;cases e)
    ·exact hd.elim
   | e eo=>
    cases eo with
    | fl a=>
     rw [de] at hd
     simp only [lH,nY] at hd
     split at hd
     ·rename_i v h' hv
      simp only [fS] at hd
      split at hd
      ·rename_i u hu
       exact key v h' _ _ kT hd.2 (fun p hp=>by simp [hp]) (fun p hp=>by simp [hp]) (fun _=>by simp) (fun lo e=>by rw [de] at e;cases e) (fun _=>by rw [de];simp [dm,nY,hv]) (fun hf=>by rw [hw] at hf;cases hf)
        (fun lo e=>by rw [de] at e;cases e) (fun _ i lo ff u hm iE=>DY hd.1 i lo ff u hm iE) (fun a' _ _=>⟨u,hu,by simp⟩)
      ·exact hd.elim
     ·exact hd.elim
    | _=>exact QE (by rw [de];rfl) (fun a e=>by rw [de] at e;cases e) (by rw [de] at hd⊢;exact hd)
   | call g args=>exact QE (by rw [de];rfl) (fun a e=>by rw [de] at e;cases e) (by rw [de] at hd⊢;exact hd)
   | lG x args=>exact QE (by rw [de];rfl) (fun a e=>by rw [de] at e;cases e) (by rw [de] at hd⊢;exact hd)
  have skip:sZ o.op.guard f→jh o.op.guard f=false→xF o.op.op o.pre j aN aI h (fun aN aI v h'=>lL P os (j+1) aN aI K (dO f o.op.dst v) h')→Dz P (o::os) j aN aI K f h:=fun kT hw hd=>by
   unfold xF at hd
   split at hd
   ·rename_i hE
    exact key undef h _ _ kT hd (fun p hp=>hp) (fun p hp=>hp) (fun gh=>by rw [hE] at gh;cases gh) (fun lo _ hf=>by rw [hw] at hf;cases hf) (fun hf=>by rw [hw] at hf;cases hf) (fun _=>⟨rfl,rfl⟩)
     (fun lo _ hf=>by rw [hw] at hf;cases hf) (fun gh=>by rw [hE] at gh;cases gh) (fun a _ hf=>by rw [hw] at hf;cases hf)
   ·rename_i hE
    exact key undef h _ _ kT hd.2 (fun p hp=>by simp [hp]) (fun p hp=>hp) (fun _=>by simp) (fun lo _ hf=>by rw [hw] at hf;cases hf) (fun hf=>by rw [hw] at hf;cases hf) (fun _=>⟨rfl,rfl⟩)
     (fun lo _ hf=>by rw [hw] at hf;cases hf) (fun _ i lo ff u hm iE=>DY hd.1 i lo ff u hm iE) (fun a _ hf=>by rw [hw] at hf;cases hf)
  simp only [lL] at hi
  split at hi
  ·rename_i kU
   exact go (by rw [kU];trivial) (by rw [kU];rfl) hi
  ·rename_i s b kU
   obtain ⟨e1,e2⟩:=Ji hi
   rcases e2 with ⟨e2,e3⟩ | ⟨e2,e3⟩
   ·exact go (by rw [kU];exact e1) (by rw [kU];exact e2) e3
   ·exact skip (by rw [kU];exact e1) (by rw [kU];exact e2) e3
def uj (g:Option (Nat×Bool)) (l:List ko):List cY:=l.map fun o=>⟨⟨o.dst,o.op,g⟩,o.pre⟩
def uk:List (Option (Nat×Bool)×List ko)→List cY
 | []=>[]
 | (g,l)::gs=>uj g l++uk gs
theorem IG:∀os:List cY,uk (xE os)=os
 | []=>rfl
 | o::os=>by
  have ih:=IG os
  simp only [xE]
  cases hg:xE os with
  | nil=>
   rw [hg] at ih
   simp only [uk] at ih
   subst ih
   simp [uk,uj]
  | cons a gs=>
   obtain ⟨g,l⟩:=a
   rw [hg] at ih
   simp only
   split
   ·rename_i he
    simp only [uk,uj,map_cons,cons_append] at ih⊢
    rw [ih,←he]
   ·simp only [uk,uj,map_cons,List.map_nil,cons_append,List.nil_append] at ih⊢
    rw [ih]
theorem adm {l:List cY} (h:l.all (fun o=>leaves o.op.guard o.op.dst)=true):∀g m,(g,m)∈xE l→∀o∈m,leaves g o.dst=true:=by
 intro g m hm o ho
 have se:(⟨⟨o.dst,o.op,g⟩,o.pre⟩:cY)∈uk (xE l):=by
  generalize xE l=gs at hm
  induction gs with
  | nil=>simp at hm
  | cons a gs ih=>
   obtain ⟨g',m'⟩:=a
   simp only [uk,List.mem_append]
   rcases mem_cons.1 hm with he | hm
   ·cases he
    left
    simp only [uj,mem_map]
    exact ⟨o,ho,rfl⟩
   ·exact .inr (ih hm)
 rw [IG] at se
 rw [all_eq_true] at h
 exact h _ se
theorem adt {P:Program} {io:iz} {pre j:Nat} {aN:List (Nat×ae)} {aI:fh} {f:Nat→Value} {h:ae} {K K':List (Nat×ae)→fh→Value→ae→Prop} (hm:∀a b v h,K a b v h→K' a b v h)
  (hs:lH P io pre j aN aI f h K):lH P io pre j aN aI f h K':=by
 cases io with
 | p po=>simp only [lH,fS] at hs⊢;split at hs <;> first | exact hm _ _ _ _ hs | exact hs.elim
 | l lo=>simp only [lH,fS] at hs⊢;split at hs <;> first | exact ⟨hs.1,hm _ _ _ _ hs.2⟩ | exact hs.elim
 | e eo=>
  cases eo with
  | fl a=>
   simp only [lH,nY,fS] at hs⊢
   split at hs
   ·split at hs <;> first | exact ⟨hs.1,hm _ _ _ _ hs.2⟩ | exact hs.elim
   ·exact hs.elim
  | _=>simp only [lH,nY] at hs⊢;split at hs <;> first | exact ⟨hs.1,hm _ _ _ _ hs.2⟩ | exact hs.elim
 | call g args=>exact sA.mono hs fun v h hk=>⟨hk.1,hm _ _ _ _ hk.2⟩
 | lG x args=>simp only [lH,uf] at hs⊢;split at hs <;> first | exact ⟨hs.1,hs.2.mono fun v h hk=>⟨hk.1,hm _ _ _ _ hk.2⟩⟩ | exact hs.elim
theorem ads {io:iz} {pre j:Nat} {aN:List (Nat×ae)} {aI:fh} {h:ae} {K K':List (Nat×ae)→fh→Value→ae→Prop} (hm:∀a b v h,K a b v h→K' a b v h)
  (hs:xF io pre j aN aI h K):xF io pre j aN aI h K':=by
 unfold xF at hs⊢
 split at hs
 ·exact hm _ _ _ _ hs
 ·exact ⟨hs.1,hm _ _ _ _ hs.2⟩
theorem WD {f:Nat→Value} {d:Option Nat} {s:Nat} (hd:d≠some s) (v:Value):dO f d v s=f s:=by
 cases ho:d with
 | none=>rfl
 | some x=>
  have:s≠x:=by rintro rfl;exact hd ho
  simp [dO,tS,this]
theorem adV {P:Program} {g:Option (Nat×Bool)} {r:List cY} {K:(Nat→Value)→ae→Prop}:∀{l:List ko} {j:Nat} {aN:List (Nat×ae)} {aI:fh} {f:Nat→Value} {h:ae},(∀o∈l,leaves g o.dst=true)→
  (∀s b,g=some (s,b)→wE (f s)=false∧ra (f s) b=true)→
  pj P l j aN aI (fun aN aI f h=>lL P r (j+l.length) aN aI K f h) f h→lL P (uj g l++r) j aN aI K f h:=by
 intro l
 induction l with
 | nil=>intro j aN aI f h _ _ hk;exact hk
 | cons o l ih=>
  intro j aN aI f h hl hg hk
  simp only [pj] at hk
  simp only [uj,map_cons,cons_append,lL]
  have step:lH P o.op o.pre j aN aI f h fun aN aI v h'=>lL P (uj g l++r) (j+1) aN aI K (dO f o.dst v) h':=by
   refine adt (fun a b v h' cj=>?_) hk
   refine ih (fun o' dS=>hl o' (by simp [dS])) ?_ ?_
   ·intro s bb hs
    have hd:o.dst≠some s:=by have:=hl o (by simp);rw [hs] at this;simpa [leaves] using this
    rw [WD hd]
    exact hg s bb hs
   ·rw [length_cons] at cj
    rw [show j+1+l.length=j+(l.length+1) by omega]
    exact cj
  cases kU:g with
  | none=>rw [kU] at step;exact step
  | some sb=>
   obtain ⟨s,b⟩:=sb
   obtain ⟨e1,e2⟩:=hg s b kU
   rw [kU] at step
   exact Rl e1 (fun _=>step) (fun h=>by rw [e2] at h;cases h)
theorem aw0 {P:Program} {s:Nat} {b:Bool} {r:List cY} {K:(Nat→Value)→ae→Prop}:∀{l:List ko} {j:Nat} {aN:List (Nat×ae)} {aI:fh} {f:Nat→Value} {h:ae},(∀o∈l,leaves (some (s,b)) o.dst=true)→
  wE (f s)=false→ra (f s) b=false→
  vV l j aN aI (fun aN aI f h=>lL P r (j+l.length) aN aI K f h) f h→lL P (uj (some (s,b)) l++r) j aN aI K f h:=by
 intro l
 induction l with
 | nil=>intro j aN aI f h _ _ _ hk;exact hk
 | cons o l ih=>
  intro j aN aI f h hl e1 e2 hk
  simp only [vV] at hk
  simp only [uj,map_cons,cons_append,lL]
  refine Rl e1 (fun h=>by rw [e2] at h;cases h) (fun _=>?_)
  refine ads (fun a c v h' cj=>?_) hk
  have hd:o.dst≠some s:=by have:=hl o (by simp);simpa [leaves] using this
  refine ih (fun o' dS=>hl o' (by simp [dS])) (by rw [WD hd];exact e1) (by rw [WD hd];exact e2) ?_
  rw [length_cons] at cj
  rw [show j+1+l.length=j+(l.length+1) by omega]
  exact cj
theorem Rb {P:Program} {K K':List (Nat×ae)→fh→(Nat→Value)→ae→Prop} (hm:∀a b f h,K a b f h→K' a b f h):∀{l:List ko} {j:Nat} {aN:List (Nat×ae)} {aI:fh} {f:Nat→Value} {h:ae},
  pj P l j aN aI K f h→pj P l j aN aI K' f h
 | [],_,_,_,_,_,hk=>hm _ _ _ _ hk
 | _::_,_,_,_,_,_,hk=>adt (fun _ _ _ _ cj=>Rb hm cj) hk
theorem adW {K K':List (Nat×ae)→fh→(Nat→Value)→ae→Prop} (hm:∀a b f h,K a b f h→K' a b f h):∀{l:List ko} {j:Nat} {aN:List (Nat×ae)} {aI:fh} {f:Nat→Value} {h:ae},
  vV l j aN aI K f h→vV l j aN aI K' f h
 | [],_,_,_,_,_,hk=>hm _ _ _ _ hk
 | _::_,_,_,_,_,_,hk=>ads (fun _ _ _ _ cj=>adW hm cj) hk
theorem adU {P:Program} {K:(Nat→Value)→ae→Prop}:∀{gs:List (Option (Nat×Bool)×List ko)} {j:Nat} {aN:List (Nat×ae)} {aI:fh} {f:Nat→Value} {h:ae},(∀g l,(g,l)∈gs→∀o∈l,leaves g o.dst=true)→
  oF P gs j aN aI K f h→lL P (uk gs) j aN aI K f h:=by
 intro gs
 induction gs with
 | nil=>intro j aN aI f h _ hk;exact hk
 | cons a gs ih=>
  obtain ⟨g,l⟩:=a
  intro j aN aI f h hl hk
  have lX:∀g' l',(g',l')∈gs→∀o∈l',leaves g' o.dst=true:=fun g' l' hm=>hl g' l' (by simp [hm])
  simp only [uk]
  cases g with
  | none=>
   simp only [oF] at hk
   exact adV (hl none l (by simp)) (fun s b hs=>by cases hs) (Rb (fun a b f h cj=>ih lX cj) hk)
  | some sb=>
   obtain ⟨s,b⟩:=sb
   simp only [oF] at hk
   obtain ⟨e1,e2⟩:=Ji hk
   rcases e2 with ⟨e2,e3⟩ | ⟨e2,e3⟩
   ·exact adV (hl _ l (by simp)) (fun s' b' hs=>by cases hs;exact ⟨e1,e2⟩) (Rb (fun a b f h cj=>ih lX cj) e3)
   ·exact aw0 (hl _ l (by simp)) e1 e2 (adW (fun a b f h cj=>ih lX cj) e3)
end
section
def eY (V:Nat→Value) (S:List Nat):List cY→Nat→(Nat→Value)→(Nat→Value)
 | [],_,f=>f
 | d::ds,i,f=>eY V S ds (i+1) (if S.contains i then dO f d.op.dst (V i) else f)
theorem xI {V:Nat→Value} {S S':List Nat} {t:Nat}:∀{l:List cY} {i:Nat} {f f':Nat→Value},(∀k d,l[k]?=some d→d.op.dst=some t→(i+k∈S↔i+k∈S'))→f t=f' t→eY V S l i f t=eY V S' l i f' t
 | [],i,f,f',_,hf=>hf
 | d::ds,i,f,f',h,hf=>by
  simp only [eY]
  refine xI (fun k d' hk hd=>?_) ?_
  ·have:=h (k+1) d' (by simpa using hk) hd
   rw [show i+(k+1)=i+1+k by omega] at this
   exact this
  ·by_cases hd:d.op.dst=some t
   ·have:=h 0 d rfl hd
    simp only [add_zero] at this
    by_cases hi:i∈S
    ·simp [hi,this.1 hi,hd,dO,tS]
    ·have hO:i∉S':=fun h=>hi (this.2 h)
     simp [hi,hO,hf]
   ·have bp:∀v g,dO g d.op.dst v t=g t:=by
     intro v g
     cases xP:d.op.dst with
     | none=>rfl
     | some x=>
      have:t≠x:=by rintro rfl;exact hd xP
      simp [dO,tS,this]
    split <;> split <;> simp [bp,hf]
theorem Q4 {V:Nat→Value} {S:List Nat} {t:Nat}:∀{l:List cY} {i:Nat} {f:Nat→Value} {k:Nat} {d:cY},l[k]?=some d→d.op.dst=some t→i+k∈S→
  (∀k' d',l[k']?=some d'→d'.op.dst=some t→k<k'→i+k'∉S)→eY V S l i f t=V (i+k)
 | [],i,f,k,d,hk,_,_,_=>by simp at hk
 | d0::ds,i,f,k,d,hk,hd,hS,Cd=>by
  simp only [eY]
  cases k with
  | zero=>
   simp at hk;subst hk
   simp only [add_zero] at hS⊢
   have:eY V S ds (i+1) (if S.contains i=true then dO f d0.op.dst (V i) else f) t=eY V [] ds (i+1) (if S.contains i=true then dO f d0.op.dst (V i) else f) t:=by
    refine xI (fun k' d' cj nR=>?_) rfl
    have:=Cd (k'+1) d' (by simpa using cj) nR (by omega)
    rw [show i+(k'+1)=i+1+k' by omega] at this
    simp [this]
   rw [this]
   have EK:∀(l:List cY) (i:Nat) (f:Nat→Value),eY V [] l i f=f:=by
    intro l
    induction l with
    | nil=>intro i f;rfl
    | cons a l ih=>intro i f;simp [eY,ih]
   rw [EK]
   simp [hS,hd,dO,tS]
  | succ k=>
   have:=Q4 (V:=V) (S:=S) (l:=ds) (i:=i+1) (f:=if S.contains i=true then dO f d0.op.dst (V i) else f) (k:=k) (d:=d) (by simpa using hk) hd (by rw [show i+1+k=i+(k+1) by omega];exact hS) (by
    intro k' d' cj nR aD
    have:=Cd (k'+1) d' (by simpa using cj) nR (by omega)
    rw [show i+(k'+1)=i+1+k' by omega] at this
    exact this)
   rw [this]
   congr 1
   omega
theorem Ek {P:Program} {l:List cY} {F:Nat→Nat→Value} {H:Nat→ae} {V:Nat→Value} (T:Trace P l 0 F H V):∀(r:List cY) (i:Nat) (S:List Nat) (j:Nat),(∀k,r[k]?=l[i+k]?)→(∀k,k∈S↔k<j)→i≤j→j≤i+r.length→
  eY V S r i (F i)=F j
 | [],i,S,j,_,_,h1,h2=>by
  simp at h2
  obtain rfl:i=j:=by omega
  rfl
 | d::r,i,S,j,hr,hS,h1,h2=>by
  simp only [eY]
  have h0:=hr 0
  simp only [List.getElem?_cons_zero,add_zero] at h0
  have hu:=T.yy i d h0.symm
  simp only [zero_add] at hu
  by_cases eP:i<j
  ·have:i∈S:=(hS i).2 eP
   simp only [List.contains_eq_mem,this,decide_true,if_true]
   rw [←hu]
   exact Ek T r (i+1) S j (fun k=>by have:=hr (k+1);rw [show i+(k+1)=i+1+k by omega] at this;simpa using this) hS (by omega) (by simp at h2;omega)
  ·obtain rfl:i=j:=by omega
   have hni:i∉S:=fun h=>by have:=(hS i).1 h;omega
   simp only [List.contains_eq_mem,hni,decide_false,Bool.false_eq_true,if_false]
   have ayq:∀(r:List cY) (k:Nat) (f:Nat→Value),i≤k→eY V S r k f=f:=by
    intro r
    induction r with
    | nil=>intro k f _;rfl
    | cons a r ih=>
     intro k f hk
     have:k∉S:=fun h=>by have:=(hS k).1 h;omega
     simp [eY,this,ih (k+1) f (by omega)]
   exact ayq r (i+1) _ (by omega)
def Dj (es:List (List Nat)) (S:List Nat):Prop:=∀j e,j∈S→e∈(es.getD j [])→e∈S
theorem alQ {qu:List Nat}:∀{es:List Nat} {i:Nat},(wP qu es).testBit i=true→∃e∈es,i=e∨(qu.getD e 0).testBit i=true
 | [],i,h=>by simp [wP] at h
 | e::es,i,h=>by
  simp only [wP,Nat.testBit_or,or_eq_true] at h
  rcases h with (h | h) | h
  ·refine ⟨e,by simp,.inl ?_⟩
   rw [Nat.testBit_two_pow] at h
   exact (by simpa using h:e=i).symm
  ·exact ⟨e,by simp,.inr h⟩
  ·obtain ⟨e',h1,h2⟩:=alQ h
   exact ⟨e',by simp [h1],h2⟩
theorem au2:∀{es:List (List Nat)} {acc:List Nat} {all:List (List Nat)},(∀k,es[k]?=all[acc.length+k]?)→(∀j i,j<acc.length→(acc.getD j 0).testBit i=true→∃e∈all.getD j [],i=e∨((jP es acc).getD e 0).testBit i=true)→
  (∀j i,((jP es acc).getD j 0).testBit i=true→∃e∈all.getD j [],i=e∨((jP es acc).getD e 0).testBit i=true):=by
 intro es
 induction es with
 | nil=>
  intro acc all _ Et j i h
  simp only [jP] at h⊢Et
  by_cases hj:j<acc.length
  ·exact Et j i hj h
  ·have:acc.getD j 0=0:=by simp [getD,le_of_not_lt hj]
   rw [this] at h
   simp at h
 | cons e0 es ih=>
  intro acc all fA Et j i h
  simp only [jP] at h⊢Et
  have ep:∀(es:List (List Nat)) (acc:List Nat) (k:Nat),k<acc.length→(jP es acc).getD k 0=acc.getD k 0:=by
   intro es
   induction es with
   | nil=>intro acc k _;rfl
   | cons a es ih'=>
    intro acc k hk
    simp only [jP]
    rw [ih' _ k (by simp;omega)]
    simp [getD,getElem?_append_left hk]
  refine ih (acc:=acc++[wP acc e0]) (all:=all) ?_ ?_ j i h
  ·intro k
   have:=fA (k+1)
   simp only [List.getElem?_cons_succ] at this
   rw [this]
   congr 1
   simp
   omega
  ·intro j' i' EC hb
   by_cases aD:j'<acc.length
   ·rw [show (acc++[wP acc e0]).getD j' 0=acc.getD j' 0 by simp [getD,getElem?_append_left aD]] at hb
    exact Et j' i' aD hb
   ·obtain rfl:j'=acc.length:=by simp at EC;omega
    rw [show (acc++[wP acc e0]).getD acc.length 0=wP acc e0 by simp [getD]] at hb
    obtain ⟨e,h1,h2⟩:=alQ hb
    have h0:=fA 0
    simp only [List.getElem?_cons_zero,add_zero] at h0
    refine ⟨e,by simp [getD,←h0,h1],?_⟩
    rcases h2 with h2 | h2
    ·exact .inl h2
    ·right
     have axm:e<acc.length:=by
      apply byContradiction
      intro cJ
      have:acc.getD e 0=0:=by simp [getD,le_of_not_lt cJ]
      rw [this] at h2
      simp at h2
     rw [ep _ _ _ (by simp;omega)]
     simpa [getD,getElem?_append_left axm] using h2
theorem Lf {es:List (List Nat)} {S:List Nat} (hS:Dj es S) (zA:∀j e,e∈es.getD j []→e<j):∀(j i:Nat),(∀e∈es.getD j [],e∈S)→((jP es []).getD j 0).testBit i=true→i∈S:=by
 intro j
 induction j using Nat.strongRecOn with
 | _ j ih=>
  intro i he hb
  obtain ⟨e,h1,h2⟩:=au2 (es:=es) (acc:=[]) (all:=es) (fun k=>by simp) (fun j i hj=>by simp at hj) j i hb
  rcases h2 with rfl | h2
  ·exact he _ h1
  ·exact ih e (zA j e h1) i (fun e' fV=>hS e e' (he e h1) fV) h2
end
section
section
variable {P : Program} {N : Nat}
theorem MM {l:List cY} {F:Nat→Nat→Value} {H:Nat→ae} {V:Nat→Value} (T:Trace P l 0 F H V) {i:Nat}:∀(d:Nat),i+d≤l.length→(∀e oe,l[e]?=some oe→oe.op.op.dN=true→¬(i≤e∧e<i+d))→H (i+d)=H i
 | 0,_,_=>rfl
 | d+1,hl,hE=>by
  have ih:=MM T d (by omega) (fun e oe h1 h2 h3=>hE e oe h1 h2 ⟨h3.1,by omega⟩)
  have aD:i+d<l.length:=by omega
  have bX:l[i+d]?=some l[i+d]:=getElem?_eq_getElem aD
  have JH:l[i+d].op.op.dN=false:=by
   cases hq:l[i+d].op.op.dN with
   | false=>rfl
   | true=>exact absurd ⟨by omega,by omega⟩ (hE (i+d) _ bX hq)
  rw [show i+(d+1)=i+d+1 by omega]
  rw [←ih]
  have hy:=T.yes (i+d) _ bX
  have hn:=T.no (i+d) _ bX
  simp only [zero_add] at hy hn
  cases hw:jh l[i+d].op.guard (F (i+d)) with
  | false=>exact (hn hw).2
  | true=>
   have hs:=hy hw
   generalize l[i+d].op.op=io at hs JH
   cases io with
   | p po=>
    simp only [dm,fS] at hs
    split at hs
    ·exact hs.2.symm
    ·exact hs.elim
   | l lo=>
    simp only [dm,fS] at hs
    split at hs
    ·exact hs.2.symm
    ·exact hs.elim
   | e eo=>cases JH
   | call g args=>cases JH
   | lG x args=>cases JH
theorem rI {l:List cY} {F:Nat→Nat→Value} {H:Nat→ae} {V:Nat→Value} (T:Trace P l 0 F H V) {i k:Nat} (p5:i≤k) (hk:k≤l.length) (hE:∀e oe,l[e]?=some oe→oe.op.op.dN=true→¬(i≤e∧e<k)):H k=H i:=by
 have:=MM T (i:=i) (k-i) (by omega) (fun e oe h1 h2 h3=>hE e oe h1 h2 ⟨h3.1,by omega⟩)
 rw [show i+(k-i)=k by omega] at this
 exact this
def Nx (l:List cY) (S:List Nat) (m:Nat):Prop:=∀e oe,l[e]?=some oe→oe.op.op.dN=true→(e∈S↔e<m)
theorem FT {l:List cY} (h:K8 l=true) {i j:Nat} {oi oj:cY} (hi:l[i]?=some oi) (hj:l[j]?=some oj):CM oj j oi i=true:=by
 unfold K8 at h
 rw [all_eq_true] at h
 have h1:=h (oj,j) (List.mem_zipIdx_iff_getElem?.2 hj)
 simp only at h1
 rw [all_eq_true] at h1
 exact h1 (oi,i) (List.mem_zipIdx_iff_getElem?.2 hi)
theorem alF {oi oj:cY} {i j t:Nat} (h:CM oj j oi i=true) (bp:i≠j) (hd:oi.op.dst=some t) (ht:u7 oj t=true):(if i<j then oj.pre.testBit i else oi.pre.testBit j)=true:=by
 unfold CM at h
 rw [hd] at h
 simp only [and_eq_true,or_eq_true,beq_iff_eq,ht,Bool.not_true,Bool.false_eq_true,false_or] at h
 rcases h.1 with h | h
 ·exact absurd h bp
 ·exact h
theorem Vi {oi oj:cY} {i j:Nat} (h:CM oj j oi i=true) (aD:i<j) (hi:oi.op.op.dN=true) (hj:oj.op.op.dN=true):oj.pre.testBit i=true:=by
 unfold CM at h
 simp only [and_eq_true,aD,decide_true,hi,hj,Bool.and_self,Bool.not_true,Bool.false_or] at h
 exact h.2
theorem avx {ops:Array Oper} {l:List cY} {F:Nat→Nat→Value} {H:Nat→ae} {V:Nat→Value} (T:Trace P l 0 F H V) (hlen:l.length=ops.size)
  (axj:∀(k:Nat) (o:Oper) (d:cY),ops[k]?=some o→l[k]?=some d→yX P N ops o=some d.op)
  (iE:∀k d,l[k]?=some d→d.pre=(jP (ops.toList.map fN) []).getD k 0)
  (zA:∀j e,e∈(ops.toList.map fN).getD j []→e<j) (xX:K8 l=true) {S r:List Nat} (hv:yN ops S r):
  Dj (ops.toList.map fN) S→(∀i∈S,i<ops.size)→∀m,m≤l.length→Nx l S m→∀S' B ρ a w,eJ P N B ρ (eY V S l 0 (F 0)) (H m) a w→∀Q:Exit→Act→World→Prop,
   (∀av a' w',eJ P N B av (F l.length) (H l.length) a' w'→Tr ρ (H m) w av (H l.length) w'→Q .normal a' w')→wpOpsIn (FR S') 0 P ops Q r a w:=by
 induction hv with
 | nil fA=>
  rename_i S
  intro gn aD m hm bD S' B ρ a w R Q hq
  have hF:eY V S l 0 (F 0)=F l.length:=by
   have h1:=Ek T l 0 (List.range l.length) l.length (fun k=>by simp) (fun k=>by simp) (by omega) (by omega)
   rw [←h1]
   funext t
   refine xI (fun k d hk _=>?_) rfl
   have gF:=(bL hk).1
   simp only [zero_add,mem_range]
   exact ⟨fun _=>gF,fun _=>fA k (by omega)⟩
  have hH:H l.length=H m:=by
   refine rI T hm (le_refl _) ?_
   rintro e oe he hE ⟨h1,h2⟩
   have:=(bD e oe he hE).1 (fA e (by omega))
   omega
  rw [hF] at R
  simp only [wpOpsIn]
  refine hq ρ a w (by rw [hH];exact R) ?_
  rw [hH]
  exact Tr.refl R.heap
 | cons wq wo zJ hvr ih=>
  rename_i S j o r
  intro gn aD m hm bD S' B ρ a w R Q hq
  have wj:j<ops.size:=(Array.getElem?_eq_some_iff.1 wq).1
  have bX:l[j]?=some (l[j]'(by omega)):=getElem?_eq_getElem _
  generalize hd0:l[j]'(by omega)=d at bX
  have hc:=axj j o d wq bX
  obtain ⟨q1,q2,q3,q4,q5⟩:=D3 hc
  have iX:(ops.toList.map fN).getD j []=fN o:=by
   simp [getD,wq]
  have uC:Dj (ops.toList.map fN) (j::S):=by
   intro k e hk he
   rcases mem_cons.1 hk with rfl | hk
   ·rw [iX] at he
    exact mem_cons_of_mem _ (zJ e he)
   ·exact mem_cons_of_mem _ (gn k e hk he)
  have before:∀i,d.pre.testBit i=true→i∈S:=by
   intro i hb
   rw [iE j d bX] at hb
   exact Lf gn zA j i (by rw [iX];exact zJ) hb
  have behind:∀k dk,l[k]?=some dk→dk.pre.testBit j=true→k∉S:=by
   intro k dk hk hb EG
   rw [iE k dk hk] at hb
   exact wo (Lf gn zA k j (fun e he=>gn k e EG he) hb)
  have slot:∀t,u7 d t=true→eY V S l 0 (F 0) t=F j t:=by
   intro t ht
   have h1:=Ek T l 0 (List.range j) j (fun k=>by simp) (fun k=>by simp) (by omega) (by omega)
   rw [←h1]
   refine xI (fun k dk hk zH=>?_) rfl
   simp only [zero_add,mem_range]
   by_cases rZ:k=j
   ·subst rZ
    exact ⟨fun h=>absurd h wo,fun h=>absurd h (Nat.lt_irrefl _)⟩
   ·have hp:=alF (FT xX hk bX) rZ zH ht
    by_cases ny:k<j
    ·rw [if_pos ny] at hp
     exact ⟨fun _=>ny,fun _=>before k hp⟩
    ·rw [if_neg ny] at hp
     exact ⟨fun h=>absurd h (behind k dk hk hp),fun h=>absurd h ny⟩
  have Ab:∀t∈d.op.reads,eY V S l 0 (F 0) t=F j t:=fun t ht=>slot t (by simp [u7,ht])
  have Ce:∀t∈tmpsOf d.op.op.iI,eY V S l 0 (F 0) t=F j t:=fun t ht=>Ab t (by simp [jo.reads,ht])
  have E0:jh d.op.guard (eY V S l 0 (F 0))=jh d.op.guard (F j):=by
   cases hg:d.op.guard with
   | none=>rfl
   | some sb=>
    obtain ⟨s,b⟩:=sb
    simp only [jh]
    rw [Ab s (by simp [jo.reads,hg])]
  have RH:sZ d.op.guard (eY V S l 0 (F 0)):=by
   have:=T.Rh j d bX
   simp only [zero_add] at this
   cases hg:d.op.guard with
   | none=>trivial
   | some sb=>
    obtain ⟨s,b⟩:=sb
    rw [hg] at this
    simp only [sZ] at this⊢
    rw [Ab s (by simp [jo.reads,hg])]
    exact this
  have E1:=Gg q4 R RH
  have j5:eY V (j::S) l 0 (F 0)=dO (eY V S l 0 (F 0)) o.dst (V j):=by
   rw [←q5]
   funext t
   by_cases mP:d.op.dst=some t
   ·have h1:=Q4 (V:=V) (S:=j::S) (l:=l) (i:=0) (f:=F 0) (k:=j) (d:=d) bX mP (by simp) (by
     intro k' d' cj nR ny
     have hp:=alF (FT xX cj bX) (by omega) nR (by simp [u7,mP])
     rw [if_neg (by omega)] at hp
     have:=behind k' d' cj hp
     simp only [zero_add,mem_cons,not_or]
     exact ⟨by omega,this⟩)
    rw [h1]
    simp [mP,dO,tS]
   ·have h1:eY V (j::S) l 0 (F 0) t=eY V S l 0 (F 0) t:=by
     refine xI (fun k dk hk zH=>?_) rfl
     have rZ:k≠j:=by
      rintro rfl
      rw [bX] at hk
      cases hk
      exact mP zH
     simp [rZ]
    rw [h1]
    cases xP:d.op.dst with
    | none=>rfl
    | some x=>
     have:t≠x:=by rintro rfl;exact mP xP
     simp [dO,tS,this]
  have jZ:∀i∈j::S,i<ops.size:=by
   intro i hi
   rcases mem_cons.1 hi with rfl | hi
   ·exact wj
   ·exact aD i hi
  -- gN F9,where gN aAH writes memory
  have Ga:d.op.op.dN=true→H m=H j∧Nx l (j::S) (j+1):=by
   intro hE
   have qN:m≤j:=by
    apply byContradiction
    intro h
    exact wo ((bD j d bX hE).2 (by omega))
   refine ⟨?_,?_⟩
   ·refine (rI T qN (by omega) ?_).symm
    rintro e oe he mM ⟨h1,h2⟩
    have hb:=Vi (FT xX he bX) h2 mM hE
    have:=(bD e oe he mM).1 (before e hb)
    omega
   ·intro e oe he mM
    rcases Nat.lt_trichotomy e j with ny | rfl | rY
    ·have hb:=Vi (FT xX he bX) ny mM hE
     exact ⟨fun _=>by omega,fun _=>mem_cons_of_mem _ (before e hb)⟩
    ·exact ⟨fun _=>by omega,fun _=>by simp⟩
    ·have hb:=Vi (FT xX bX he) rY hE mM
     have:=behind e oe he hb
     constructor
     ·intro h
      rcases mem_cons.1 h with h | h
      ·omega
      ·exact absurd h this
     ·intro h;omega
  have CU:d.op.op.dN=false→Nx l (j::S) m:=by
   intro hE e oe he mM
   have bp:e≠j:=by
    rintro rfl
    rw [bX] at he
    cases he
    rw [hE] at mM
    cases mM
   rw [←bD e oe he mM]
   simp [bp]
  have E3:=T.yes j d bX
  have dh:=T.no j d bX
  simp only [zero_add] at E3 dh
  simp only [wpOpsIn,wq]
  by_cases hw:jh d.op.guard (F j)=true
  ·rw [if_pos (by rw [E1,E0,hw])]
   have hs:=E3 hw
   by_cases hE:d.op.op.dN=true
   ·obtain ⟨e1,e2⟩:=Ga hE
    rw [←LP Ce,←e1] at hs
    obtain ⟨v,h',st,hv,hh⟩:=AP (N:=N) q3 q1 hs
    subst hv
    subst hh
    refine st S' B ρ a w R _ _ ?_
    intro av v' w' wB HH TT
    have R':=R.uU q2 TT wB HH
    rw [←j5] at R'
    exact ih uC jZ (j+1) (by omega) e2 S' B av _ w' R' Q fun nf sV kh o9 uc=>hq nf sV kh o9 (TT.trans uc)
   ·have gh:d.op.op.dN=false:=by simpa using hE
    -- vf is looked at has one value at this F9 and in gN aHH order
    have dT:dm P d.op.op (eY V S l 0 (F 0)) (H m) fun v h'=>v=V j∧h'=H m:=by
     rw [LP Ce]
     cases de:d.op.op with
     | p po=>
      rw [de] at hs
      simp only [dm,fS] at hs⊢
      split at hs
      ·exact ⟨hs.1,trivial⟩
      ·exact hs.elim
     | l lo=>
      have bW:fR lo (ev (F j)) (H m)=some (V j):=by
       have Cm:fR lo (ev (F j)) (H j)=some (V j):=by
        rw [de] at hs
        simp only [dm,fS] at hs
        split at hs
        ·rename_i v hv
         rw [hv,hs.1]
        ·exact hs.elim
       rcases Nat.le_total m j with qN | qN
       ·by_cases hex:∃e oe,l[e]?=some oe∧oe.op.op.dN=true∧m≤e∧e<j
        ·-- gN least of aFR
         have key:∀n,(∃e oe,l[e]?=some oe∧oe.op.op.dN=true∧m≤e∧e<j∧e<n)→∃e oe,l[e]?=some oe∧oe.op.op.dN=true∧m≤e∧e<j∧∀e' jG,l[e']?=some jG→jG.op.op.dN=true→¬(m≤e'∧e'<e):=by
          intro n
          induction n with
          | zero=>rintro ⟨e,oe,_,_,_,_,h⟩;omega
          | succ n tE=>
           rintro ⟨e,oe,h1,h2,h3,h4,h5⟩
           by_cases eQ:∃e oe,l[e]?=some oe∧oe.op.op.dN=true∧m≤e∧e<j∧e<n
           ·exact tE eQ
           ·refine ⟨e,oe,h1,h2,h3,h4,?_⟩
            rintro e' jG k1 k2 ⟨k3,k4⟩
            exact eQ ⟨e',jG,k1,k2,k3,by omega,by omega⟩
         obtain ⟨e0,AN,g1,g2,g3,g4⟩:=hex
         obtain ⟨e,oe,h1,h2,h3,h4,h5⟩:=key j ⟨e0,AN,g1,g2,g3,g4,g4⟩
         have zt:H e=H m:=rI T h3 (by omega) (fun e' jG k1 k2 k3=>h5 e' jG k1 k2 k3)
         rw [←zt]
         have tq:d.pre.testBit e=false:=by
          cases hb:d.pre.testBit e with
          | false=>rfl
          | true=>
           have:=(bD e oe h1 h2).1 (before e hb)
           omega
         have:=T.Vp e oe j d lo h1 h2 bX de (by simpa using hw) h4 (by simpa using tq)
         simpa using this
        ·have zv:H j=H m:=rI T qN (by omega) (fun e oe h1 h2 h3=>hex ⟨e,oe,h1,h2,h3⟩)
         rw [←zv]
         exact Cm
       ·by_cases hex:∃e oe,l[e]?=some oe∧oe.op.op.dN=true∧j≤e∧e<m
        ·have key:∀n,(∃e oe,l[e]?=some oe∧oe.op.op.dN=true∧j≤e∧e<m∧m≤e+n)→∃e oe,l[e]?=some oe∧oe.op.op.dN=true∧j≤e∧e<m∧∀e' jG,l[e']?=some jG→jG.op.op.dN=true→¬(e+1≤e'∧e'<m):=by
          intro n
          induction n with
          | zero=>rintro ⟨e,oe,_,_,_,_,h⟩;omega
          | succ n tE=>
           rintro ⟨e,oe,h1,h2,h3,h4,h5⟩
           by_cases eQ:∃e oe,l[e]?=some oe∧oe.op.op.dN=true∧j≤e∧e<m∧m≤e+n
           ·exact tE eQ
           ·refine ⟨e,oe,h1,h2,h3,h4,?_⟩
            rintro e' jG k1 k2 ⟨k3,k4⟩
            exact eQ ⟨e',jG,k1,k2,by omega,by omega,by omega⟩
         obtain ⟨e0,AN,g1,g2,g3,g4⟩:=hex
         obtain ⟨e,oe,h1,h2,h3,h4,h5⟩:=key m ⟨e0,AN,g1,g2,g3,g4,by omega⟩
         have bp:e≠j:=by
          rintro rfl
          rw [bX] at h1
          cases h1
          rw [gh] at h2
          cases h2
         have zt:H m=H (e+1):=rI T (by omega) hm (fun e' jG k1 k2 k3=>h5 e' jG k1 k2 k3)
         rw [zt]
         have tq:oe.pre.testBit j=false:=by
          cases hb:oe.pre.testBit j with
          | false=>rfl
          | true=>exact absurd ((bD e oe h1 h2).2 h4) (behind e oe h1 hb)
         have:=T.Q5 j d lo e oe bX de (by simpa using hw) h1 h2 (by omega) (by simpa using tq)
         simpa using this
        ·have zv:H m=H j:=rI T qN hm (fun e oe h1 h2 h3=>hex ⟨e,oe,h1,h2,h3⟩)
         rw [zv]
         exact Cm
      simp [dm,fS,bW]
     | e eo=>rw [de] at gh;cases gh
     | call g args=>rw [de] at gh;cases gh
     | lG x args=>rw [de] at gh;cases gh
    obtain ⟨v,h',st,hv,hh⟩:=AP (N:=N) q3 q1 dT
    subst hv
    subst hh
    refine st S' B ρ a w R _ _ ?_
    intro av v' w' wB HH TT
    have R':=R.uU q2 TT wB HH
    rw [←j5] at R'
    exact ih uC jZ m hm (CU gh) S' B av _ w' R' Q fun nf sV kh o9 uc=>hq nf sV kh o9 (TT.trans uc)
  ·have pC:jh d.op.guard (F j)=false:=by simpa using hw
   rw [if_neg (by rw [E1,E0,pC];simp)]
   obtain ⟨n1,n2⟩:=dh pC
   have R':=R.uU q2 (Tr.refl R.heap) (ax.undef _) R.heap
   rw [n1] at j5
   rw [←j5] at R'
   by_cases hE:d.op.op.dN=true
   ·obtain ⟨e1,e2⟩:=Ga hE
    have e3:H (j+1)=H m:=by rw [n2,e1]
    exact ⟨fun _ _=>trivial,ih uC jZ (j+1) (by omega) e2 S' B ρ _ w (by rw [e3];exact R') Q fun nf sV kh o9 uc=>hq nf sV kh o9 (by rw [e3] at uc;exact uc)⟩
   ·exact ⟨fun _ _=>trivial,ih uC jZ m hm (CU (by simpa using hE)) S' B ρ _ w R' Q hq⟩
theorem W3:∀{ios:List jo} {ps:List Nat},ios.length≤ps.length→(oW ios ps).length=ios.length∧∀(k:Nat) (d:cY),(oW ios ps)[k]?=some d→ios[k]?=some d.op∧d.pre=ps.getD k 0
 | [],ps,_=>⟨by simp [oW],fun k d h=>by simp [oW] at h⟩
 | o::ios,[],h=>by simp at h
 | o::ios,p::ps,h=>by
  obtain ⟨h1,h2⟩:=W3 (ios:=ios) (ps:=ps) (by simpa using h)
  refine ⟨by simp [oW,h1],?_⟩
  intro k d hk
  cases k with
  | zero=>simp [oW] at hk;subst hk;simp
  | succ k=>
   simp only [oW,List.getElem?_cons_succ] at hk
   obtain ⟨a,b⟩:=h2 k d hk
   exact ⟨by simpa using a,by simpa [getD] using b⟩
theorem Iv:∀(es:List (List Nat)) (acc:List Nat),(jP es acc).length=acc.length+es.length
 | [],acc=>by simp [jP]
 | e::es,acc=>by simp only [jP];rw [Iv];simp;omega
theorem Qp {ops:Array Oper}:∀{os:List Oper} {l:List jo},lT P N ops os=some l→l.length=os.length∧∀(k:Nat) (o:Oper) (x:jo),os[k]?=some o→l[k]?=some x→yX P N ops o=some x
 | [],l,h=>by
  simp [lT] at h
  subst h
  exact ⟨rfl,fun k o x hk=>by simp at hk⟩
 | o::os,l,h=>by
  obtain ⟨x,xs,h1,h2,rfl⟩:=vL h
  obtain ⟨e1,e2⟩:=Qp h2
  refine ⟨by simp [e1],?_⟩
  intro k o' x' hk hx
  cases k with
  | zero=>simp at hk hx;subst hk;subst hx;exact h1
  | succ k=>exact e2 k o' x' (by simpa using hk) (by simpa using hx)
theorem ayL {out:Bool} {id:Nat} {ops:Array Oper} {l:List cY} {K:(Nat→Value)→ae→Prop} {f:Nat→Value} {h:ae} (hc:Qm P N ops=some l) (hi:lL P l 0 [] [] K f h):
  ∃f' h',gZ P N out (.region id ops true) f h .normal f' h'∧K f' h':=by
 unfold Qm at hc
 split at hc
 ·rename_i ios RN
  split at hc
  ·rename_i tg
   simp at hc
   simp only [and_eq_true] at tg
   obtain ⟨⟨EI,tc⟩,xX⟩:=tg
   rw [hc] at xX
   obtain ⟨g1,g2⟩:=Qp RN
   have RU:ios.length≤(jP (ops.toList.map fN) []).length:=by rw [Iv];simp [g1]
   obtain ⟨z1,z2⟩:=W3 RU
   rw [hc] at z1 z2
   have hlen:l.length=ops.size:=by rw [z1,g1];simp
   obtain ⟨F,H,V,f1,f2,f3,T,_,_⟩:=SX hi
   simp only [zero_add] at f3
   refine ⟨F l.length,H l.length,?_,f3⟩
   ·intro S hS B ρ a w R
    refine wpIn_region_draw ?_
    intro t
    have Sw:Region.schedule (P.follows .mixedOrders) ops t=Region.linearise .any ops t:=by
     unfold Region.schedule
     rw [EI]
     simp
    rw [Sw]
    have bW:=ago tc t
    have zA:∀j e,e∈(ops.toList.map fN).getD j []→e<j:=by
     intro j e he
     by_cases hj:j<ops.size
     ·have hg:ops.toList[j]?=some ops[j]:=by simp [hj]
      have:(ops.toList.map fN).getD j []=fN ops[j]:=by simp [getD,hj]
      rw [this] at he
      have:=G8 tc j ops[j] hg e he
      omega
     ·have:(ops.toList.map fN).getD j []=[]:=by simp [getD,le_of_not_lt hj]
      rw [this] at he
      simp at he
    have EK:∀(l:List cY) (i:Nat) (f:Nat→Value),eY V [] l i f=f:=by
     intro l
     induction l with
     | nil=>intro i f;rfl
     | cons a l ih=>intro i f;simp [eY,ih]
    have R1:eJ P N B ρ (eY V [] l 0 (F 0)) (H 0) a { w with drawn:=w.drawn+1 }:=by
     rw [EK,f1,f2]
     exact R.mono (Tr.drew R.heap _) (R.heap.drew _)
    refine avx T hlen ?_ ?_ zA xX bW (fun j e hj=>by simp at hj) (fun i hi=>by simp at hi) 0 (by omega) (fun e oe _ _=>by simp) S B ρ a _ R1 _ ?_
    ·intro k o d hk hd
     exact g2 k o d.op (by simpa using hk) (z2 k d hd).1
    ·intro k d hd
     exact (z2 k d hd).2
    ·intro av a' w' R' T'
     refine ⟨rfl,av,R',?_⟩
     have T0:=Tr.drew R.heap (w.drawn+1)
     rw [f2] at T'
     exact T0.trans T'
  ·cases hc
 ·cases hc
end
end
section
section
variable {P : Program} {w : World} {ρ : aK} {h : ae}
theorem a9.alloc (H:a9 P ρ h w) (b:Obj):a9 P ρ h (w.alloc b)∧Tr ρ h w ρ h (w.alloc b):=by
 have nb:=jX.alloc w b
 refine ⟨⟨?_,H.inj,H.aY⟩,?_⟩
 ·intro i r hi
  obtain ⟨o,ho,hr⟩:=H.obj i r hi
  refine ⟨o,ho,?_⟩
  by_cases hd:o=.dead
  ·subst hd;trivial
  ·exact hr.mono (.refl _) (nb.old (CF H hi ⟨o,ho,hd⟩))
 ·exact {
   ext:=.refl _
   len:=le_refl _
   jQ:=fun i r hi=>H.lt hi
   kinds:=fun i _ hm=>hm
   fresh:=fun i s h1 h2=>by rw [h1] at h2;cases h2
   ji:=by rw [nb.size];omega
   iK:=fun k hk _=>nb.old hk
   os:=nb.os
   tape:=nb.tape
   output:=nb.output }
theorem AW {l k:Nat} {o:Obj} (hk:k≠l):(w.putObj l o).heap[k]?=w.heap[k]?:=World.putObj_heap_other hk
theorem a9.put (H:a9 P ρ h w) {l:Nat} (dh:∀j s,ρ j=some s→s.bw=l→¬fq h j) (o:Obj):a9 P ρ h (w.putObj l o):=by
 refine ⟨?_,H.inj,H.aY⟩
 intro i r hi
 obtain ⟨o',ho,hr⟩:=H.obj i r hi
 refine ⟨o',ho,?_⟩
 by_cases hd:o'=.dead
 ·subst hd;trivial
 ·refine hr.mono (.refl _) (AW ?_)
  intro e
  exact dh i r hi e ⟨o',ho,hd⟩
theorem a9.afY (H:a9 P ρ h w) {l:Nat} {rec:Loop} (hl:w.heap[l]?=some (.loop rec)) {j:Nat} {s:RI} (hj:ρ j=some s) (hs:s.bw=l) (hv:fq h j):∃c ls vs,h[j]?=some (.loop c ls vs):=by
 obtain ⟨o,ho,bp⟩:=hv
 obtain ⟨o',dS,hr⟩:=H.obj j s hj
 rw [ho] at dS
 cases dS
 subst hs
 cases o with
 | ro e xs=>obtain ⟨_,c,_,fr,h2,_⟩:=hr;rw [hl] at h2;cases h2
 | arr e xs=>obtain ⟨_,_,c,h2,_⟩:=hr;rw [hl] at h2;cases h2
 | smap es=>obtain ⟨aJ,clock,h1,_⟩:=hr;rw [hl] at h1;cases h1
 | fm kd es=>obtain ⟨aJ,clock,h1,_⟩:=hr;rw [hl] at h1;cases h1
 | cU g c es=>obtain ⟨_,aJ,h1,_⟩:=hr;rw [hl] at h1;cases h1
 | iter m s n l=>obtain ⟨_,rm,_,h1⟩:=hr;rw [hl] at h1;cases h1
 | loop c ls vs=>exact ⟨c,ls,vs,ho⟩
 | dead=>exact absurd rfl bp
theorem Tr.late {av:aK} {h':ae} {w':World} (T:Tr ρ h w av h' w') {l:Nat} (hl:w.heap.size≤l) (o:Obj) (i:Nat):Tr ρ h w av (h'.set i .dead) (w'.putObj l o) where
 ext:=T.ext
 len:=by simpa using T.len
 jQ:=T.jQ
 kinds:=by
  intro j hj hm
  refine T.kinds j hj ?_
  by_cases e:j=i
  ·subst e
   have aD:j<h'.length:=Nat.lt_of_lt_of_le hj T.len
   unfold cF at hm
   rw [getElem?_set_self aD] at hm
   rcases hm with ⟨_,_,h1⟩ | ⟨_,h1⟩ | ⟨_,_,_,h1⟩ | ⟨_,_,h1⟩ | ⟨_,_,_,h1⟩ | ⟨_,_,_,_,h1⟩ <;> cases h1
  ·unfold cF at hm⊢
   rw [getElem?_set_ne (Ne.symm e)] at hm
   exact hm
 fresh:=T.fresh
 ji:=by rw [World.putObj_size];exact T.ji
 iK:=fun k hk dh=>by rw [AW (by omega)];exact T.iK k hk dh
 os:=T.os
 tape:=T.tape
 output:=T.output
theorem a9.kill (H:a9 P ρ h w) (i:Nat):a9 P ρ (h.set i .dead) w:=by
 have hm:∀j,cF (h.set i .dead) j→cF h j:=by
  intro j hj
  by_cases e:j=i
  ·subst e
   unfold cF at hj
   by_cases aD:j<h.length
   ·rw [getElem?_set_self aD] at hj
    rcases hj with ⟨_,_,h1⟩ | ⟨_,h1⟩ | ⟨_,_,_,h1⟩ | ⟨_,_,h1⟩ | ⟨_,_,_,h1⟩ | ⟨_,_,_,_,h1⟩ <;> cases h1
   ·rw [getElem?_eq_none (by simpa using le_of_not_lt aD)] at hj
    rcases hj with ⟨_,_,h1⟩ | ⟨_,h1⟩ | ⟨_,_,_,h1⟩ | ⟨_,_,h1⟩ | ⟨_,_,_,h1⟩ | ⟨_,_,_,_,h1⟩ <;> cases h1
  ·unfold cF at hj⊢
   rw [getElem?_set_ne (Ne.symm e)] at hj
   exact hj
 have hl:∀j,fq (h.set i .dead) j→fq h j:=by
  intro j hj
  by_cases e:j=i
  ·subst e
   obtain ⟨o,ho,bp⟩:=hj
   by_cases aD:j<h.length
   ·rw [getElem?_set_self aD] at ho
    cases ho
    exact absurd rfl bp
   ·rw [getElem?_eq_none (by simpa using le_of_not_lt aD)] at ho
    cases ho
  ·unfold fq at hj⊢
   rw [getElem?_set_ne (Ne.symm e)] at hj
   exact hj
 refine ⟨?_,fun a b r s ha hb nz h1 h2=>H.inj a b r s ha hb nz (hm a h1) (hl b h2),H.aY⟩
 intro j r hj
 by_cases e:j=i
 ·subst e
  exact ⟨.dead,by rw [getElem?_set_self (H.lt hj)],trivial⟩
 ·obtain ⟨o,ho,hr⟩:=H.obj j r hj
  exact ⟨o,by rw [getElem?_set_ne (Ne.symm e)];exact ho,hr⟩
theorem aFf {g:FuncId} {first cap:Array Value} (nt:pP P g=true) (a:Act) (gx:Operand) (hy:a.eval gx=.func (.func g) first cap) (l:Nat) (w:World):
  ∃d,(resolve a.eval (rangeCall gx l) 0).run P w=.ok d w∧(invoke d.target d.args).run P w=.ok (.enter g (first++#[.func (.yield l) #[] #[]]++cap)) w:=by
 refine ⟨_,by simp [resolve,hy,Deferred.ofValue];rfl,?_⟩
 simp [invoke,Qd nt,Act.eval]
theorem amQ {N:Nat} {g:Operand} {ps:Array Tmp} {ky body:Code} {ls:List Nat} {K:ae→Prop} {f:Nat→Value} (aE:jM g=true)
  (hi:uW P (ev f g) ls (ls.map f) ⟨N,ps,ky,body⟩ h K):∃h',gZ P N true (.rangeFunc g ps ky body) f h .normal f h'∧K h':=by
 unfold uW at hi
 split at hi
 ·rename_i F first cap hx
  obtain ⟨nt,v,h',rW,⟨c',ls',jS,bX⟩,hk⟩:=hi
  refine ⟨_,?_,hk⟩
  intro S hS B ρ a w R
  obtain rfl:=hS rfl
  refine wpIn_rangeFunc fun fn _=>?_
  obtain ⟨H0,T0⟩:=R.heap.alloc (.deferred (some []))
  have jJ:(w.alloc (.deferred (some []))).heap.size=w.heap.size+1:=World.size_alloc _ _
  have nb:=jX.alloc (w.alloc (.deferred (some []))) (.loop { state:=.ready,pending:=none,fn,tmps:=a.tmps,params:=ps,assign:=ky,body,defers:=w.heap.size })
  obtain ⟨H1,T1⟩:=H0.new (h₀:=h) (o:=.loop ⟨N,ps,ky,body⟩ ls (ls.map f)) (r:=⟨w.heap.size+1,0,0,P.cellsOf 0,0⟩) nb jJ.symm rfl rfl (fun _=>.inl rfl)
   ⟨_,by rw [←jJ];exact nb.new,rfl,rfl,rfl,rfl,rfl,R.size,fun t=>by
    rcases Fy f ls t with e | e
    ·rw [e];exact (R.tmp t).mono (aK.wJ R.heap.none)
    ·rw [e];exact .any _⟩
  have hr:=R.ev aE
  rw [hx] at hr
  generalize hy:a.eval g=y at hr
  cases hr with
  | func _ s1 s2 r1 r2=>
   rename_i QY Ix
   obtain ⟨d,ayg,axA⟩:=aFf (w:=((w.alloc (.deferred (some []))).alloc (.loop { state:=.ready,pending:=none,fn,tmps:=a.tmps,params:=ps,assign:=ky,body,defers:=w.heap.size }))) nt a g hy (w.heap.size+1)
   refine ⟨_,_,_,d,_,F,_,_,run_enterLoop_outer fn a.tmps ps ky body,ayg,fun _ _=>trivial,axA,fun h=>(by cases h),?_⟩
   have hle:=aK.wJ (r:=⟨w.heap.size+1,0,0,P.cellsOf 0,0⟩) R.heap.none
   have ta:bG (ρ.add h.length ⟨w.heap.size+1,0,0,P.cellsOf 0,0⟩) (first.toList++[.func (.yield h.length) #[] #[]]++cap.toList) (QY++#[Value.func (.yield (w.heap.size+1)) #[] #[]]++Ix).toList:=by
    have q1:=(bG.tR s1 r1).mono hle
    have q3:=(bG.tR s2 r2).mono hle
    have q2:bG (ρ.add h.length ⟨w.heap.size+1,0,0,P.cellsOf 0,0⟩) [.func (.yield h.length) #[] #[]] [.func (.yield (w.heap.size+1)) #[] #[]]:=
     .cons (ax.yield (i:=h.length) (r:=⟨w.heap.size+1,0,0,P.cellsOf 0,0⟩) (by simp [aK.add])) .nil
    simpa using (q1.append q2).append q3
   refine (acY (rW _ _ _ ta H1) none _).mono ?_
   rintro e w3 ⟨v',av,rfl,hv,H3,T3⟩
   have SP:av h.length=some ⟨w.heap.size+1,0,0,P.cellsOf 0,0⟩:=T3.ext _ _ (by simp [aK.add])
   obtain ⟨o,ho,sg⟩:=H3.obj _ _ SP
   rw [bX] at ho
   cases ho
   obtain ⟨rec,g1,g2,g3,g4,g5,g6,g7,g8⟩:=sg
   have gH:=run_endLoop (P:=P) g1 (by rw [g2];decide)
   refine ⟨_,_,gH,?_⟩
   split
   rotate_left
   ·rename_i c hc;rw [g3] at hc;cases hc
   have TT:=(T0.trans (T1.trans T3))
   have Hk:=H3.kill h.length
   have ax3:a9 P av (h'.set h.length .dead) (w3.putObj (w.heap.size+1) (.loop { rec with state:=.exhausted })):=by
    refine Hk.put ?_ _
    intro j s hj hs wk
    obtain ⟨c,_,_,hc⟩:=Hk.afY g1 hj hs wk
    have bp:j≠h.length:=by
     rintro rfl
     rw [getElem?_set_self (H3.lt SP)] at hc
     cases hc
    rw [getElem?_set_ne (Ne.symm bp)] at hc
    exact bp (H3.inj _ _ _ _ hj SP hs (.inr (.inr (.inl ⟨_,_,_,hc⟩))) ⟨_,bX,by simp⟩)
   have TL:=TT.late (l:=w.heap.size+1) (by omega) (.loop { rec with state:=.exhausted }) h.length
   refine ⟨rfl,av,⟨R.size,?_,fun t=>(R.tmp t).mono TL.ext,ax3⟩,TL⟩
   have hD:(w3.putObj (w.heap.size+1) (.loop { rec with state:=.exhausted })).heap[w.heap.size]?=some (.deferred (some [])):=by
    rw [AW (by omega)]
    have e1:(w.alloc (.deferred (some []))).heap[w.heap.size]?=some (.deferred (some [])):=World.alloc_heap_new _ _
    have e2:=nb.old (k:=w.heap.size) (by omega)
    rw [T3.iK _ (by rw [nb.size];omega) ?_,e2,e1]
    intro j s hj hs hm
    exact H1.TN (e2.trans e1) hj hs hm.live
   refine ⟨⟨w.heap.size,rfl,marks.base R.defers,hD,?_⟩,marks.tr R.heap TL R.defers⟩
   intro d' nR he
   obtain ⟨D,e1,e2⟩:=marks.lt R.defers d' nR
   rw [e1] at he
   have:=agI he
   omega
 ·exact hi.elim
end
end
section
section
variable {P : Program} {N : Nat}
theorem ary {a:ng} {g g':Operand→Value} (h:∀x∈a.iI,g x=g' x):lQ a g=lQ a g':=by
 cases a with
 | alloc e zs=>rfl
 | nX e n zs ps=>
  simp only [lQ]
  rw [K9 (ps:=ps) h]
 | make e b zs l c=>
  simp only [ng.iI,mem_cons,List.not_mem_nil,or_false,forall_eq_or_imp,forall_eq] at h
  simp only [lQ,h.1,h.2]
 | pG g=>rfl
theorem arz {a:ng} {g:Operand→Value} {V:Nat→Value} {o:aj} (h:lQ a g=some (V,o)) {ρ av:aK} {i j:Nat} {v':Value} (e:av j=ρ i) (hv:ax ρ (V i) v'):ax av (V j) v':=by
 have ptr:V=(fun i=>.pointer (some ⟨i,0,none⟩))→ax av (V j) v':=by
  rintro rfl
  cases hv with
  | ptr hr=>exact .ptr (by rw [e];exact hr)
 have slc:∀t n,V=(fun i=>sl t i 0 n)→ax av (V j) v':=by
  rintro t n rfl
  cases hv with
  | slice hr a b c d=>exact .slice (by rw [e];exact hr) a b c d
 have mp:V=(fun i=>.map (some i))→ax av (V j) v':=by
  rintro rfl
  cases hv with
  | map hr=>exact .map (by rw [e];exact hr)
 cases a with
 | pG g=>simp [lQ] at h;exact mp h.1.symm
 | alloc t zs=>simp [lQ] at h;exact ptr h.1.symm
 | nX t n zs ps=>simp only [lQ,map_eq_some_iff,Prod.mk.injEq] at h;obtain ⟨_,_,h1,_⟩:=h;exact slc t n h1.symm
 | make t b zs l c=>
  simp only [lQ] at h
  split at h
  ·split at h
   ·simp at h;exact slc t _ h.1.symm
   ·cases h
  ·cases h
theorem QI {o:aj} {u:Value} (h:pU o=some u):(∃e xs,o=.arr e xs∧(∀x∈xs,tK x=true)∧u=.agg (.int .i64 e::xs).toArray)∨∃g,o=.cU g 0 []∧u=.tuple #[Em g]:=by
 unfold pU at h
 split at h
 ·rename_i e xs
  split at h
  ·rename_i hx
   rw [all_eq_true] at hx
   injection h with h
   exact .inl ⟨e,xs,rfl,hx,h.symm⟩
  ·cases h
 ·rename_i g c es
  split at h
  ·rename_i hc
   obtain ⟨rfl,hc⟩:=hc
   rw [List.isEmpty_iff] at hc
   subst hc
   injection h with h
   exact .inr ⟨g,rfl,h.symm⟩
  ·cases h
 ·cases h
theorem awZ {g g':gf} (h:Em g=Em g'):g=g':=by
 cases g <;> cases g' <;> simp [Em] at h <;> first | rfl | (subst h;rfl) | (obtain ⟨rfl,h⟩:=h;rw [Int.ofNat.inj h]) | (have:=Int.ofNat.inj h.2;rw [h.1,this])
theorem awr {o o':aj} {u:Value} (h:pU o=some u) (h':pU o'=some u):o=o':=by
 rcases QI h with ⟨e,xs,rfl,_,h1⟩ | ⟨g,rfl,h1⟩ <;> rcases QI h' with ⟨e',fL,rfl,_,h2⟩ | ⟨g',rfl,h2⟩
 ·rw [h1] at h2
  simp at h2
  obtain ⟨h3,h4⟩:=h2
  have BX:e=e':=Int.ofNat.inj h3
  rw [BX,h4]
 ·rw [h1] at h2;cases h2
 ·rw [h1] at h2;cases h2
 ·rw [h1] at h2
  simp at h2
  rw [awZ h2]
theorem lM.tK {ρ av:aK} {w:World} {r:RI} {o:aj} (hx:(pU o).isSome=true) (h:lM ρ w r o):lM av w r o:=by
 obtain ⟨u,hu⟩:=Option.isSome_iff_exists.1 hx
 rcases QI hu with ⟨e,xs,rfl,hx,_⟩ | ⟨g,rfl,_⟩
 ·obtain ⟨h1,h0,c,h2,h3,h4⟩:=h
  refine ⟨h1,h0,c,h2,h3,fun j x hj=>?_⟩
  obtain ⟨c1,y,hy,hr⟩:=h4 j x hj
  exact ⟨c1,y,hy,tK.rel (hx x (mem_of_getElem? hj)) hr⟩
 ·obtain ⟨h0,aJ,h1,h2,h3⟩:=h
  exact ⟨h0,aJ,h1,h2,fun j b k v hj=>by simp at hj⟩
theorem a9.take {ρ av:aK} {h:ae} {w w':World} {o:aj} {p:Nat} (R:a9 P ρ h w) (hp:h[p]?=some o) (hx:(pU o).isSome=true) (hn:ρ p=Option.none)
  (H':a9 P av (h++[o]) w') (T:Tr ρ h w av (h++[o]) w'):a9 P (fun k=>if k=p then av h.length else ρ k) h w':=by
 have j6:=(bL hp).1
 have new:(h++[o])[h.length]?=some o:=by simp
 have old:∀k,k<h.length→(h++[o])[k]?=h[k]?:=fun k hk=>getElem?_append_left hk
 have hle:ρ.le fun k=>if k=p then av h.length else ρ k:=by
  intro k r hr
  have:k≠p:=by rintro rfl;rw [hn] at hr;cases hr
  simp [this,hr]
 have mt:∀k,k<h.length→(cF h k↔cF (h++[o]) k):=fun k hk=>by unfold cF;rw [old k hk]
 have Fh:∀k,k<h.length→(fq h k↔fq (h++[o]) k):=fun k hk=>by unfold fq;rw [old k hk]
 have TF:cF h p↔cF (h++[o]) h.length:=by unfold cF;rw [new,hp]
 have Tt:fq h p↔fq (h++[o]) h.length:=by unfold fq;rw [new,hp]
 refine ⟨?_,?_,?_⟩
 ·intro k r hr
  by_cases hk:k=p
  ·subst hk
   simp only [if_true] at hr
   obtain ⟨o',dS,nV⟩:=H'.obj _ r hr
   rw [new] at dS
   cases dS
   exact ⟨_,hp,lM.tK hx nV⟩
  ·simp only [if_neg hk] at hr
   obtain ⟨o',dS,nV⟩:=R.obj k r hr
   obtain ⟨o2,EM,Sl⟩:=H'.obj k r (T.ext k r hr)
   rw [old k (R.lt hr),dS] at EM
   cases EM
   exact ⟨o',dS,(nV.down T.ext Sl).mono hle rfl⟩
 ·intro a b r s ha hb nz hm hl
  by_cases ea:a=p <;> by_cases eb:b=p
  ·omega
  ·subst ea
   simp only [if_true] at ha
   simp only [if_neg eb] at hb
   have uB:=R.lt hb
   have:=H'.inj h.length b r s ha (T.ext b s hb) nz (TF.1 hm) ((Fh b uB).1 hl)
   omega
  ·subst eb
   simp only [if_true] at hb
   simp only [if_neg ea] at ha
   have qG:=R.lt ha
   have:=H'.inj a h.length r s (T.ext a r ha) hb nz ((mt a qG).1 hm) (Tt.1 hl)
   omega
  ·simp only [if_neg ea] at ha
   simp only [if_neg eb] at hb
   exact H'.inj a b r s (T.ext a r ha) (T.ext b s hb) nz ((mt a (R.lt ha)).1 hm) ((Fh b (R.lt hb)).1 hl)
 ·intro k r hr
  by_cases hk:k=p
  ·subst hk;simp only [if_true] at hr;exact H'.aY _ r hr
  ·simp only [if_neg hk] at hr;exact R.aY k r hr
theorem Tr.take {Bh ρ av:aK} {hb h:ae} {wb w w':World} {o:aj} {p:Nat} (TB:Tr Bh hb wb ρ h w) (hpb:hb.length≤p) (hn:ρ p=Option.none) (T:Tr ρ h w av (h++[o]) w'):
  Tr Bh hb wb (fun k=>if k=p then av h.length else ρ k) h w':=by
 have TT:=TB.trans T
 exact {
  ext:=by
   intro k r hr
   have:=TB.ext k r hr
   have hk:k≠p:=by rintro rfl;rw [hn] at this;cases this
   simp [hk,this]
  len:=TB.len
  jQ:=TB.jQ
  kinds:=TB.kinds
  fresh:=by
   intro k r hr eK
   by_cases hk:k=p
   ·subst hk
    simp only [if_true] at hr
    have hbn:Bh h.length=none:=by
     cases hq:Bh h.length with
     | none=>rfl
     | some q=>have:=TB.jQ _ _ hq;have:=TB.len;omega
    exact ⟨hpb,(TT.fresh _ r hr hbn).2⟩
   ·simp only [if_neg hk] at hr
    exact TB.fresh k r hr eK
  ji:=TT.ji
  iK:=TT.iK
  os:=TT.os
  tape:=TT.tape
  output:=TT.output }
theorem BP {l:List cY} {F:Nat→Nat→Value} {H:Nat→ae} {V:Nat→Value} (T:Trace P l 0 F H V) {q:Nat} {d:cY} {a:ng} (hq:l[q]?=some d) (ho:d.op.op=.e (.fl a)) (hg:d.op.guard=none):
  ∃Vf o,lQ a (ev (F q))=some (Vf,o)∧V q=Vf (H q).length∧H (q+1)=H q++[o]∧(pU o).isSome=true∧eC (H (q+1)) (V q)=pU o∧
   ∀e' oe,l[e']?=some oe→oe.op.op.dN=true→q<e'→oe.pre.testBit q=false→eC (H (e'+1)) (V q)=pU o:=by
 have hw:jh d.op.guard (F (0+q))=true:=by rw [hg];rfl
 have hy:=T.yes q d hq hw
 obtain ⟨u,u1,u2⟩:=T.flo q d a hq ho hw
 simp only [zero_add] at hy u1 u2
 rw [ho] at hy
 simp only [dm,nY,afM] at hy
 cases qG:lQ a (ev (F q)) with
 | none=>rw [qG] at hy;exact hy.elim
 | some p=>
  obtain ⟨Vf,o⟩:=p
  rw [qG] at hy
  simp only [map_some] at hy
  obtain ⟨h1,h2⟩:=hy
  have iY:=Pj qG (H q).length
  rw [h1] at iY
  have Ex:eC (H (q+1)) (V q)=pU o:=by
   unfold eC
   rw [iY,←h2]
   simp
  rw [Ex] at u1
  exact ⟨Vf,o,rfl,h1.symm,h2.symm,by rw [u1];rfl,Ex,fun e' oe he hE aD hp=>(u2 e' oe he hE aD hp).trans u1.symm⟩
def Ny (l:List cY) (S:List Nat) (m:Nat):Prop:=∀e oe,l[e]?=some oe→oe.op.op.dN=true→je oe=false→(e∈S↔e<m)
theorem At {o:cY}:je o=true↔∃a,o.op.op=.e (.fl a):=by
 unfold je
 constructor
 ·intro h
  split at h
  ·rename_i a ha;exact ⟨a,ha⟩
  ·cases h
 ·rintro ⟨a,ha⟩;rw [ha]
structure Laid (P:Program) (N:Nat) (ops:Array Oper) (l:List cY) (perm:Nat→Nat) (mF:Nat):Prop where
 len:l.length=ops.size
 lt:∀q,q<ops.size→perm q<ops.size
 inj:∀q k,q<ops.size→k<ops.size→perm q=perm k→q=k
 sur:∀j,j<ops.size→∃q,q<ops.size∧perm q=j
 comp:∀q o d,ops[perm q]?=some o→l[q]?=some d→∃x,yX P N ops o=some x∧x.dst=d.op.dst∧x.guard=d.op.guard∧tmpsOf x.op.iI=tmpsOf d.op.op.iI∧((je d=false∧x.op=d.op.op)∨∃a,x.op=.e a.Gc∧d.op.op=.e (.fl a)∧d.op.guard=none)
 pre:∀q d,l[q]?=some d→∀k,k<ops.size→d.pre.testBit k=((jP (ops.toList.map fN) []).getD (perm q) 0).testBit (perm k)
 back:∀j e,e∈(ops.toList.map fN).getD j []→e<j
 AU:∀i j oi oj,l[i]?=some oi→l[j]?=some oj→CN oj j oi i=true
 head:mF≤l.length
 low:∀q d,l[q]?=some d→q<mF→d.op.op.dN=true→je d=true
 high:∀q d,l[q]?=some d→mF≤q→je d=false
theorem alC {oi oj:cY} {i j t:Nat} (h:CN oj j oi i=true) (bp:i≠j) (hd:oi.op.dst=some t) (ht:u7 oj t=true):(if i<j then oj.pre.testBit i else oi.pre.testBit j)=true:=by
 unfold CN at h
 rw [hd] at h
 simp only [and_eq_true,or_eq_true,beq_iff_eq,ht,Bool.not_true,Bool.false_eq_true,false_or] at h
 rcases h.1 with h | h
 ·exact absurd h bp
 ·exact h
theorem Vh {oi oj:cY} {i j:Nat} (h:CN oj j oi i=true) (aD:i<j) (hi:oi.op.op.dN=true) (hj:oj.op.op.dN=true) (fi:je oi=false) (fj:je oj=false):oj.pre.testBit i=true:=by
 unfold CN at h
 simp only [and_eq_true,aD,decide_true,hi,hj,fi,fj,Bool.and_self,Bool.not_true,Bool.not_false,Bool.false_or] at h
 exact h.2
theorem xR {ops:Array Oper} {l:List cY} {perm:Nat→Nat} {mF:Nat} (L:Laid P N ops l perm mF) (nT:∀(q:Nat) (d:cY),l[q]?=some d→je d=true→d.op.guard=none) {F:Nat→Nat→Value} {H:Nat→ae} {V:Nat→Value} (T:Trace P l 0 F H V) {k:Nat}:∀(d:Nat),k+d≤mF→∃os,H (k+d)=H k++os
 | 0,_=>⟨[],by simp⟩
 | d+1,hd=>by
  obtain ⟨os,iZ⟩:=xR L nT T (k:=k) d (by omega)
  have aD:k+d<l.length:=by have:=L.head;omega
  have bX:l[k+d]?=some l[k+d]:=getElem?_eq_getElem aD
  rw [show k+(d+1)=k+d+1 by omega]
  cases hE:l[k+d].op.op.dN with
  | true=>
   have hf:=L.low (k+d) _ bX (by omega) hE
   obtain ⟨a,ha⟩:=At.1 hf
   obtain ⟨_,oo,_,_,h3,_⟩:=BP T bX ha (nT _ _ bX hf)
   exact ⟨os++[oo],by rw [h3,iZ];simp⟩
  | false=>
   have:=MM T (i:=k+d) 1 (by omega) (fun e oe h1 h2 h3=>by
    have:e=k+d:=by omega
    subst this
    rw [bX] at h1
    cases h1
    rw [hE] at h2
    cases h2)
   exact ⟨os,by rw [this,iZ]⟩
theorem avy {ops:Array Oper} {l:List cY} {perm:Nat→Nat} {mF:Nat} (L:Laid P N ops l perm mF) (nT:∀(q:Nat) (d:cY),l[q]?=some d→je d=true→d.op.guard=none) {F:Nat→Nat→Value} {H:Nat→ae} {V:Nat→Value} (T:Trace P l 0 F H V)
  {Bh:aK} {wb:World} {S r:List Nat} (hv:yN ops S r):
  Dj (ops.toList.map fN) S→(∀i∈S,i<ops.size)→∀Sp,(∀q,q∈Sp↔q<ops.size∧perm q∈S)→∀m,mF≤m→m≤l.length→Ny l Sp m→∀S' B ρ a w,eJ P N B ρ (eY V Sp l 0 (F 0)) (H m) a w→(H mF).length≤(H m).length→
   (∀(q:Nat) (d:cY),l[q]?=some d→je d=true→q∉Sp→ρ (H q).length=none∧eC (H m) (V q)=eC (H (q+1)) (V q))→Tr Bh (H 0) wb ρ (H m) w→∀Q:Exit→Act→World→Prop,
   (∀av a' w',eJ P N B av (F l.length) (H l.length) a' w'→Tr Bh (H 0) wb av (H l.length) w'→Q .normal a' w')→wpOpsIn (FR S') 0 P ops Q r a w:=by
 induction hv with
 | nil fA=>
  rename_i S
  intro gn aD Sp BZ m EH hm bD S' B ρ a w R _ _ TB Q hq
  have fc:∀q,q<l.length→q∈Sp:=fun q hq=>(BZ q).2 ⟨by rw [←L.len];exact hq,fA _ (L.lt q (by rw [←L.len];exact hq))⟩
  have hF:eY V Sp l 0 (F 0)=F l.length:=by
   have h1:=Ek T l 0 (List.range l.length) l.length (fun k=>by simp) (fun k=>by simp) (by omega) (by omega)
   rw [←h1]
   funext t
   refine xI (fun k d hk _=>?_) rfl
   have gF:=(bL hk).1
   simp only [zero_add,mem_range]
   exact ⟨fun _=>gF,fun _=>fc k gF⟩
  have hH:H l.length=H m:=by
   refine rI T hm (le_refl _) ?_
   rintro e oe he hE ⟨h1,h2⟩
   have:=(bD e oe he hE (L.high e oe he (by omega))).1 (fc e h2)
   omega
  rw [hF] at R
  simp only [wpOpsIn]
  exact hq ρ a w (by rw [hH];exact R) (by rw [hH];exact TB)
 | cons wq wo zJ hvr ih=>
  rename_i S j0 o r
  intro gn aD Sp BZ m EH hm bD S' B ρ a w R hlen th TB Q hq
  have aeL:j0<ops.size:=(Array.getElem?_eq_some_iff.1 wq).1
  obtain ⟨j,wj,nU⟩:=L.sur j0 aeL
  have mQ:j<l.length:=by rw [L.len];exact wj
  have bX:l[j]?=some (l[j]'mQ):=getElem?_eq_getElem _
  generalize hd0:l[j]'mQ=d at bX
  obtain ⟨x,hc,x1,x2,x3,x4⟩:=L.comp j o d (by rw [nU];exact wq) bX
  obtain ⟨q1,q2,q3,q4,q5⟩:=D3 hc
  rw [x2] at q4
  rw [x1] at q5
  have R7:j∉Sp:=fun h=>wo (by rw [←nU];exact ((BZ j).1 h).2)
  have iX:(ops.toList.map fN).getD j0 []=fN o:=by
   simp [getD,wq]
  have uC:Dj (ops.toList.map fN) (j0::S):=by
   intro k e hk he
   rcases mem_cons.1 hk with rfl | hk
   ·rw [iX] at he
    exact mem_cons_of_mem _ (zJ e he)
   ·exact mem_cons_of_mem _ (gn k e hk he)
  have Es:∀q,q∈j::Sp↔q<ops.size∧perm q∈j0::S:=by
   intro q
   rw [mem_cons,mem_cons,BZ]
   constructor
   ·rintro (rfl | ⟨h1,h2⟩)
    ·exact ⟨wj,.inl nU⟩
    ·exact ⟨h1,.inr h2⟩
   ·rintro ⟨h1,h2 | h2⟩
    ·exact .inl (L.inj q j h1 wj (h2.trans nU.symm))
    ·exact .inr ⟨h1,h2⟩
  have before:∀i,i<ops.size→d.pre.testBit i=true→i∈Sp:=by
   intro i hi hb
   rw [L.pre j d bX i hi,nU] at hb
   exact (BZ i).2 ⟨hi,Lf gn L.back j0 (perm i) (by rw [iX];exact zJ) hb⟩
  have behind:∀k dk,l[k]?=some dk→dk.pre.testBit j=true→k∉Sp:=by
   intro k dk hk hb EG
   have hkn:k<ops.size:=by rw [←L.len];exact (bL hk).1
   rw [L.pre k dk hk j wj,nU] at hb
   have axJ:=((BZ k).1 EG).2
   exact wo (Lf gn L.back (perm k) j0 (fun e he=>gn (perm k) e axJ he) hb)
  have j9:∀{k dk},l[k]?=some dk→k<ops.size:=fun hk=>by rw [←L.len];exact (bL hk).1
  have slot:∀t,u7 d t=true→eY V Sp l 0 (F 0) t=F j t:=by
   intro t ht
   have h1:=Ek T l 0 (List.range j) j (fun k=>by simp) (fun k=>by simp) (by omega) (by omega)
   rw [←h1]
   refine xI (fun k dk hk zH=>?_) rfl
   simp only [zero_add,mem_range]
   by_cases rZ:k=j
   ·subst rZ
    exact ⟨fun h=>absurd h R7,fun h=>absurd h (Nat.lt_irrefl _)⟩
   ·have hp:=alC (L.AU k j dk d hk bX) rZ zH ht
    by_cases ny:k<j
    ·rw [if_pos ny] at hp
     exact ⟨fun _=>ny,fun _=>before k (j9 hk) hp⟩
    ·rw [if_neg ny] at hp
     exact ⟨fun h=>absurd h (behind k dk hk hp),fun h=>absurd h ny⟩
  have Ab:∀t∈d.op.reads,eY V Sp l 0 (F 0) t=F j t:=fun t ht=>slot t (by simp [u7,ht])
  have Ce:∀t∈tmpsOf d.op.op.iI,eY V Sp l 0 (F 0) t=F j t:=fun t ht=>Ab t (by simp [jo.reads,ht])
  have E0:jh d.op.guard (eY V Sp l 0 (F 0))=jh d.op.guard (F j):=by
   cases hg:d.op.guard with
   | none=>rfl
   | some sb=>
    obtain ⟨s,b⟩:=sb
    simp only [jh]
    rw [Ab s (by simp [jo.reads,hg])]
  have RH:sZ d.op.guard (eY V Sp l 0 (F 0)):=by
   have:=T.Rh j d bX
   simp only [zero_add] at this
   cases hg:d.op.guard with
   | none=>trivial
   | some sb=>
    obtain ⟨s,b⟩:=sb
    rw [hg] at this
    simp only [sZ] at this⊢
    rw [Ab s (by simp [jo.reads,hg])]
    exact this
  have E1:=Gg q4 R RH
  have j5:eY V (j::Sp) l 0 (F 0)=dO (eY V Sp l 0 (F 0)) o.dst (V j):=by
   rw [←q5]
   funext t
   by_cases mP:d.op.dst=some t
   ·have h1:=Q4 (V:=V) (S:=j::Sp) (l:=l) (i:=0) (f:=F 0) (k:=j) (d:=d) bX mP (by simp) (by
     intro k' d' cj nR ny
     have hp:=alC (L.AU k' j d' d cj bX) (by omega) nR (by simp [u7,mP])
     rw [if_neg (by omega)] at hp
     have:=behind k' d' cj hp
     simp only [zero_add,mem_cons,not_or]
     exact ⟨by omega,this⟩)
    rw [h1]
    simp [mP,dO,tS]
   ·have h1:eY V (j::Sp) l 0 (F 0) t=eY V Sp l 0 (F 0) t:=by
     refine xI (fun k dk hk zH=>?_) rfl
     have rZ:k≠j:=by
      rintro rfl
      rw [bX] at hk
      cases hk
      exact mP zH
     simp [rZ]
    rw [h1]
    cases xP:d.op.dst with
    | none=>rfl
    | some y=>
     have:t≠y:=by rintro rfl;exact mP xP
     simp [dO,tS,this]
  have jZ:∀i∈j0::S,i<ops.size:=by
   intro i hi
   rcases mem_cons.1 hi with rfl | hi
   ·exact aeL
   ·exact aD i hi
  -- aGQ still to avj stay vJ aHJ are
  have F3:∀q dq,l[q]?=some dq→je dq=true→q<mF:=by
   intro q dq hq hf
   apply byContradiction
   intro h
   rw [L.high q dq hq (by omega)] at hf
   cases hf
  have aEm:∀q dq,l[q]?=some dq→je dq=true→(H q).length<(H mF).length:=by
   intro q dq hq hf
   have hqm:=F3 q dq hq hf
   obtain ⟨a,ha⟩:=At.1 hf
   obtain ⟨_,oo,_,_,h3,_⟩:=BP T hq ha (nT _ _ hq hf)
   obtain ⟨os,iZ⟩:=xR L nT T (k:=q+1) (mF-(q+1)) (by omega)
   rw [show q+1+(mF-(q+1))=mF by omega,h3] at iZ
   rw [iZ]
   simp
  have af6:∀{av:aK} {h':ae} {w':World},Tr ρ (H m) w av h' w'→∀q dq,l[q]?=some dq→je dq=true→ρ (H q).length=none→av (H q).length=none:=by
   intro av h' w' TT q dq hq hf hn
   cases hr:av (H q).length with
   | none=>rfl
   | some s=>
    have:=(TT.fresh _ s hr hn).1
    have:=aEm q dq hq hf
    omega
  -- gN F9,where gN aAH writes memory
  have Ga:d.op.op.dN=true→je d=false→mF≤j∧H m=H j∧Ny l (j::Sp) (j+1):=by
   intro hE sf
   have ED:mF≤j:=by
    apply byContradiction
    intro h
    rw [L.low j d bX (by omega) hE] at sf
    cases sf
   have qN:m≤j:=by
    apply byContradiction
    intro h
    exact R7 ((bD j d bX hE sf).2 (by omega))
   refine ⟨ED,?_,?_⟩
   ·refine (rI T qN (by omega) ?_).symm
    rintro e oe he mM ⟨h1,h2⟩
    have wg:=L.high e oe he (by omega)
    have hb:=Vh (L.AU e j oe d he bX) h2 mM hE wg sf
    have:=(bD e oe he mM wg).1 (before e (j9 he) hb)
    omega
   ·intro e oe he mM wg
    rcases Nat.lt_trichotomy e j with ny | rfl | rY
    ·have hb:=Vh (L.AU e j oe d he bX) ny mM hE wg sf
     exact ⟨fun _=>by omega,fun _=>mem_cons_of_mem _ (before e (j9 he) hb)⟩
    ·exact ⟨fun _=>by omega,fun _=>by simp⟩
    ·have hb:=Vh (L.AU j e d oe bX he) rY hE mM sf wg
     have:=behind e oe he hb
     constructor
     ·intro h
      rcases mem_cons.1 h with h | h
      ·omega
      ·exact absurd h this
     ·intro h;omega
  have CU:(d.op.op.dN=false∨je d=true)→Ny l (j::Sp) m:=by
   intro hE e oe he mM wg
   have bp:e≠j:=by
    rintro rfl
    rw [bX] at he
    cases he
    rcases hE with hE | hE
    ·rw [hE] at mM;cases mM
    ·rw [hE] at wg;cases wg
   rw [←bD e oe he mM wg]
   simp [bp]
  have E3:=T.yes j d bX
  have dh:=T.no j d bX
  simp only [zero_add] at E3 dh
  simp only [wpOpsIn,wq]
  by_cases hw:jh d.op.guard (F j)=true
  ·rw [if_pos (by rw [E1,E0,hw])]
   have hs:=E3 hw
   rcases x4 with ⟨sf,WZ⟩ | ⟨aa,WZ,Qx,dg⟩
   ·rw [WZ] at q3
    by_cases hE:d.op.op.dN=true
    ·obtain ⟨e0,e1,e2⟩:=Ga hE sf
     rw [←LP Ce,←e1] at hs
     obtain ⟨v,h',st,hv,hh⟩:=AP (N:=N) q3 q1 hs
     subst hv
     subst hh
     refine st S' B ρ a w R _ _ ?_
     intro av v' w' wB HH TT
     have R':=R.uU q2 TT wB HH
     rw [←j5] at R'
     refine ih uC jZ (j::Sp) Es (j+1) (by omega) (by omega) e2 S' B av _ w' R' (Nat.le_trans hlen TT.len) ?_ (TB.trans TT) Q hq
     intro q dq gT hf qQ
     have hqS:q∉Sp:=fun h=>qQ (mem_cons_of_mem _ h)
     obtain ⟨i1,i2⟩:=th q dq gT hf hqS
     refine ⟨af6 TT q dq gT hf i1,?_⟩
     obtain ⟨a',kC⟩:=At.1 hf
     obtain ⟨_,oo,_,_,_,_,h5,h6⟩:=BP T gT kC (nT _ _ gT hf)
     rw [h5]
     refine h6 j d bX hE (by have:=F3 q dq gT hf;omega) ?_
     cases hb:d.pre.testBit q with
     | false=>rfl
     | true=>exact absurd (before q (j9 gT) hb) hqS
    ·have gh:d.op.op.dN=false:=by simpa using hE
     -- vf is looked at has one value at this F9 and in gN aHh order
     have dT:dm P d.op.op (eY V Sp l 0 (F 0)) (H m) fun v h'=>v=V j∧h'=H m:=by
      rw [LP Ce]
      cases de:d.op.op with
      | p po=>
       rw [de] at hs
       simp only [dm,fS] at hs⊢
       split at hs
       ·exact ⟨hs.1,trivial⟩
       ·exact hs.elim
      | l lo=>
       have Cm:fR lo (ev (F j)) (H j)=some (V j):=by
        rw [de] at hs
        simp only [dm,fS] at hs
        split at hs
        ·rename_i v hv
         rw [hv,hs.1]
        ·exact hs.elim
       -- from a place at or behind gN head,to a F9 before it
       have down:mF≤j→m≤j→fR lo (ev (F j)) (H m)=some (V j):=by
        intro ED qN
        by_cases hex:∃e oe,l[e]?=some oe∧oe.op.op.dN=true∧m≤e∧e<j
        ·have key:∀n,(∃e oe,l[e]?=some oe∧oe.op.op.dN=true∧m≤e∧e<j∧e<n)→∃e oe,l[e]?=some oe∧oe.op.op.dN=true∧m≤e∧e<j∧∀e' jG,l[e']?=some jG→jG.op.op.dN=true→¬(m≤e'∧e'<e):=by
          intro n
          induction n with
          | zero=>rintro ⟨e,oe,_,_,_,_,h⟩;omega
          | succ n tE=>
           rintro ⟨e,oe,h1,h2,h3,h4,h5⟩
           by_cases eQ:∃e oe,l[e]?=some oe∧oe.op.op.dN=true∧m≤e∧e<j∧e<n
           ·exact tE eQ
           ·refine ⟨e,oe,h1,h2,h3,h4,?_⟩
            rintro e' jG k1 k2 ⟨k3,k4⟩
            exact eQ ⟨e',jG,k1,k2,k3,by omega,by omega⟩
         obtain ⟨e0,AN,g1,g2,g3,g4⟩:=hex
         obtain ⟨e,oe,h1,h2,h3,h4,h5⟩:=key j ⟨e0,AN,g1,g2,g3,g4,g4⟩
         have zt:H e=H m:=rI T h3 (by omega) (fun e' jG k1 k2 k3=>h5 e' jG k1 k2 k3)
         rw [←zt]
         have tq:d.pre.testBit e=false:=by
          cases hb:d.pre.testBit e with
          | false=>rfl
          | true=>
           have:=(bD e oe h1 h2 (L.high e oe h1 (by omega))).1 (before e (j9 h1) hb)
           omega
         have:=T.Vp e oe j d lo h1 h2 bX de (by simpa using hw) h4 (by simpa using tq)
         simpa using this
        ·have zv:H j=H m:=rI T qN (by omega) (fun e oe h1 h2 h3=>hex ⟨e,oe,h1,h2,h3⟩)
         rw [←zv]
         exact Cm
       -- to a F9 behind it,from where gN value is known
       have up:∀b,j≤b→mF≤b→b≤m→fR lo (ev (F j)) (H b)=some (V j)→fR lo (ev (F j)) (H m)=some (V j):=by
        intro b hjb hbF B3 hbv
        by_cases hex:∃e oe,l[e]?=some oe∧oe.op.op.dN=true∧b≤e∧e<m
        ·have key:∀n,(∃e oe,l[e]?=some oe∧oe.op.op.dN=true∧b≤e∧e<m∧m≤e+n)→∃e oe,l[e]?=some oe∧oe.op.op.dN=true∧b≤e∧e<m∧∀e' jG,l[e']?=some jG→jG.op.op.dN=true→¬(e+1≤e'∧e'<m):=by
          intro n
          induction n with
          | zero=>rintro ⟨e,oe,_,_,_,_,h⟩;omega
          | succ n tE=>
           rintro ⟨e,oe,h1,h2,h3,h4,h5⟩
           by_cases eQ:∃e oe,l[e]?=some oe∧oe.op.op.dN=true∧b≤e∧e<m∧m≤e+n
           ·exact tE eQ
           ·refine ⟨e,oe,h1,h2,h3,h4,?_⟩
            rintro e' jG k1 k2 ⟨k3,k4⟩
            exact eQ ⟨e',jG,k1,k2,by omega,by omega,by omega⟩
         obtain ⟨e0,AN,g1,g2,g3,g4⟩:=hex
         obtain ⟨e,oe,h1,h2,h3,h4,h5⟩:=key m ⟨e0,AN,g1,g2,g3,g4,by omega⟩
         have bp:e≠j:=by
          rintro rfl
          rw [bX] at h1
          cases h1
          rw [gh] at h2
          cases h2
         have zt:H m=H (e+1):=rI T (by omega) hm (fun e' jG k1 k2 k3=>h5 e' jG k1 k2 k3)
         rw [zt]
         have tq:oe.pre.testBit j=false:=by
          cases hb:oe.pre.testBit j with
          | false=>rfl
          | true=>exact absurd ((bD e oe h1 h2 (L.high e oe h1 (by omega))).2 h4) (behind e oe h1 hb)
         have:=T.Q5 j d lo e oe bX de (by simpa using hw) h1 h2 (by omega) (by simpa using tq)
         simpa using this
        ·have zv:H m=H b:=rI T B3 hm (fun e oe h1 h2 h3=>hex ⟨e,oe,h1,h2,h3⟩)
         rw [zv]
         exact hbv
       have bW:fR lo (ev (F j)) (H m)=some (V j):=by
        by_cases ED:mF≤j
        ·rcases Nat.le_total m j with qN | qN
         ·exact down ED qN
         ·exact up j (le_refl _) ED qN Cm
        ·obtain ⟨os,iZ⟩:=xR L nT T (k:=j) (mF-j) (by omega)
         rw [show j+(mF-j)=mF by omega] at iZ
         refine up mF (by omega) (le_refl _) EH ?_
         rw [iZ]
         exact ayS os Cm
       simp [dm,fS,bW]
      | e eo=>rw [de] at gh;cases gh
      | call g args=>rw [de] at gh;cases gh
      | lG x args=>rw [de] at gh;cases gh
     obtain ⟨v,h',st,hv,hh⟩:=AP (N:=N) q3 q1 dT
     subst hv
     subst hh
     refine st S' B ρ a w R _ _ ?_
     intro av v' w' wB HH TT
     have R':=R.uU q2 TT wB HH
     rw [←j5] at R'
     refine ih uC jZ (j::Sp) Es m EH hm (CU (.inl gh)) S' B av _ w' R' hlen ?_ (TB.trans TT) Q hq
     intro q dq gT hf qQ
     obtain ⟨i1,i2⟩:=th q dq gT hf (fun h=>qQ (mem_cons_of_mem _ h))
     exact ⟨af6 TT q dq gT hf i1,i2⟩
   ·-- a new aAx
    have hf:je d=true:=At.2 ⟨aa,Qx⟩
    obtain ⟨Vf,oo,h1,h2,h3,h4,h5,h6⟩:=BP T bX Qx dg
    obtain ⟨i1,i2⟩:=th j d bX hf R7
    have qG:lQ aa (ev (eY V Sp l 0 (F 0)))=some (Vf,oo):=by
     rw [←h1]
     refine ary (QO fun t ht=>Ce t ?_)
     rw [Qx]
     exact ht
    have iY:=Pj h1 (H j).length
    rw [←h2] at iY
    have axU:(H m)[(H j).length]?=some oo:=by
     rw [h5] at i2
     unfold eC at i2
     rw [iY] at i2
     simp only [bind_some] at i2
     cases ho:(H m)[(H j).length]? with
     | none=>
      rw [ho] at i2
      obtain ⟨u,hu⟩:=Option.isSome_iff_exists.1 h4
      rw [hu] at i2
      cases i2
     | some o'=>
      rw [ho] at i2
      obtain ⟨u,Ex⟩:=Option.isSome_iff_exists.1 h4
      simp only [bind_some] at i2
      rw [awr (i2.trans Ex) Ex]
    have ayv:dm P x.op (eY V Sp l 0 (F 0)) (H m) fun v h'=>v=Vf (H m).length∧h'=H m++[oo]:=by
     rw [WZ]
     simp only [dm,nY,ayR,afM,qG,map_some]
     exact ⟨trivial,trivial⟩
    obtain ⟨v,h',st,hv,hh⟩:=AP (N:=N) q3 q1 ayv
    subst hv
    subst hh
    refine st S' B ρ a w R _ _ ?_
    intro av v' w' wB HH TT
    have HR:=R.heap.take axU h4 i1 HH TT
    have hle:ρ.le fun k=>if k=(H j).length then av (H m).length else ρ k:=by
     intro k s hk
     have:k≠(H j).length:=by rintro rfl;rw [i1] at hk;cases hk
     simp [this,hk]
    have R1:eJ P N B (fun k=>if k=(H j).length then av (H m).length else ρ k) (eY V Sp l 0 (F 0)) (H m) a w':=⟨R.size,marks.tr R.heap TT R.defers,fun t=>(R.tmp t).mono hle,HR⟩
    have Ah:ax (fun k=>if k=(H j).length then av (H m).length else ρ k) (V j) v':=by
     rw [h2]
     exact arz h1 (by simp) wB
    have R':=R1.uU q2 (Tr.refl HR) Ah HR
    rw [←j5] at R'
    have hjb:(H 0).length≤(H j).length:=by
     obtain ⟨os,iZ⟩:=xR L nT T (k:=0) j (by have:=F3 j d bX hf;omega)
     rw [zero_add] at iZ
     rw [iZ];simp
    refine ih uC jZ (j::Sp) Es m EH hm (CU (.inr hf)) S' B _ _ w' R' hlen ?_ (TB.take hjb i1 TT) Q hq
    intro q dq gT RD qQ
    have hqj:q≠j:=fun h=>qQ (by simp [h])
    obtain ⟨k1,k2⟩:=th q dq gT RD (fun h=>qQ (mem_cons_of_mem _ h))
    refine ⟨?_,k2⟩
    have bp:(H q).length≠(H j).length:=by
     have grow:∀{a b:Nat} {da:cY},l[a]?=some da→je da=true→a<b→b<mF→(H a).length<(H b).length:=by
      intro a b da ha hfa iD hb
      obtain ⟨a',kC⟩:=At.1 hfa
      obtain ⟨_,oo',_,_,g3,_⟩:=BP T ha kC (nT _ _ ha hfa)
      obtain ⟨os,iZ⟩:=xR L nT T (k:=a+1) (b-(a+1)) (by omega)
      rw [show a+1+(b-(a+1))=b by omega,g3] at iZ
      rw [iZ]
      simp
     rcases Nat.lt_or_gt_of_ne hqj with h | h
     ·have:=grow gT RD h (F3 j d bX hf);omega
     ·have:=grow bX hf h (F3 q dq gT RD);omega
    simp [bp,k1]
  ·have pC:jh d.op.guard (F j)=false:=by simpa using hw
   rw [if_neg (by rw [E1,E0,pC];simp)]
   obtain ⟨n1,n2⟩:=dh pC
   have R':=R.uU q2 (Tr.refl R.heap) (ax.undef _) R.heap
   rw [n1] at j5
   rw [←j5] at R'
   have sf:je d=false:=by
    cases hf:je d with
    | false=>rfl
    | true=>rw [nT j d bX hf] at pC;cases pC
   by_cases hE:d.op.op.dN=true
   ·obtain ⟨e0,e1,e2⟩:=Ga hE sf
    have e3:H (j+1)=H m:=by rw [n2,e1]
    refine ⟨fun _ _=>trivial,ih uC jZ (j::Sp) Es (j+1) (by omega) (by omega) e2 S' B ρ _ w (by rw [e3];exact R') (by rw [e3];exact hlen) ?_ (by rw [e3];exact TB) Q hq⟩
    intro q dq gT hf qQ
    rw [e3]
    exact th q dq gT hf (fun h=>qQ (mem_cons_of_mem _ h))
   ·exact ⟨fun _ _=>trivial,ih uC jZ (j::Sp) Es m EH hm (CU (.inl (by simpa using hE))) S' B ρ _ w R' hlen (fun q dq gT hf qQ=>th q dq gT hf (fun h=>qQ (mem_cons_of_mem _ h))) TB Q hq⟩
end
end
section
section
variable {P : Program} {N : Nat}
theorem avl {op:Op} {a:ng} (h:iU P op=some (.fl a)):False:=by
 unfold iU at h
 split at h
 all_goals repeat' (split at h)
 all_goals first | (cases h;done) | (simp at h;done) | (simp only [map_eq_some_iff] at h;obtain ⟨_,_,h⟩:=h;cases h;done)
theorem avn {op:Op} {a:ng} (h:vM P op=some (.e (.fl a))):False:=by
 rcases Qq h with ⟨po,e,_⟩ | ⟨lo,e,_⟩ | ⟨eo,e,he⟩ | ⟨g,args,at_,_,_,e⟩ | ⟨x,args,at_,_,e⟩
 ·cases e
 ·cases e
 ·cases e;exact avl he
 ·cases e
 ·cases e
theorem adk:∀{l:List Nat},IL l=true→l.Nodup
 | [],_=>.nil
 | x::xs,h=>by
  simp only [IL,and_eq_true] at h
  rw [nodup_cons]
  exact ⟨by simpa using h.1,adk h.2⟩
theorem agf {l:List cY} {fl:List Nat} {p0:List Nat}:∀{perm:List Nat},(∀i∈perm,i<l.length)→∀q:Nat,
  (perm.filterMap fun i=>(l[i]?).map fun o=>(⟨if fl.contains i then Ej o.op else o.op,Kk o.pre p0 0⟩:cY))[q]?=(perm[q]?).bind fun i=>(l[i]?).map fun o=>⟨if fl.contains i then Ej o.op else o.op,Kk o.pre p0 0⟩
 | [],_,q=>by simp
 | i::perm,h,q=>by
  have bC:i<l.length:=h i (by simp)
  have hi:l[i]?=some l[i]:=getElem?_eq_getElem bC
  rw [List.filterMap_cons,hi]
  simp only [map_some]
  cases q with
  | zero=>simp [hi]
  | succ q=>
   rw [List.getElem?_cons_succ,List.getElem?_cons_succ]
   exact agf (fun i hi=>h i (by simp [hi])) q
theorem avm {ops:Array Oper} {l:List cY} {perm:List Nat} (hc:IC P N ops=some (l,perm)):P.follows .mixedOrders=true∧yT ops.toList 0=true∧Laid P N ops l (fun q=>perm.getD q 0) (uE l)∧∀(q:Nat) (d:cY),l[q]?=some d→je d=true→d.op.guard=none:=by
 unfold IC at hc
 split at hc
 ·rename_i ios RN
  simp only at hc
  split at hc
  ·rename_i tg
   simp only [Option.some.injEq,Prod.mk.injEq] at hc
   obtain ⟨hl,hp⟩:=hc
   rw [hp] at hl tg
   rw [hl] at tg
   simp only [and_eq_true] at tg
   obtain ⟨⟨EI,tc⟩,aE⟩:=tg
   obtain ⟨g1,g2⟩:=Qp RN
   have j6:(jP (ops.toList.map fN) []).length=ops.size:=by rw [Iv];simp
   have RU:ios.length≤(jP (ops.toList.map fN) []).length:=by rw [Iv];simp [g1]
   obtain ⟨z1,z2⟩:=W3 RU
   have hz:(oW ios (jP (ops.toList.map fN) [])).length=ops.size:=by rw [z1,g1];simp
   unfold okF at aE
   simp only [and_eq_true,beq_iff_eq] at aE
   obtain ⟨⟨⟨⟨⟨⟨⟨o1,o2⟩,o3⟩,o4⟩,o5⟩,o6⟩,o7⟩,o8⟩:=aE
   rw [j6] at o1 o2 o4 o7
   rw [all_eq_true] at o4 o5 o6 o7 o8
   have aD:∀i∈perm,i<ops.size:=fun i hi=>by simpa using o4 i hi
   have bX:∀q,q<ops.size→perm.getD q 0∈perm:=by
    intro q hq
    have:q<perm.length:=by omega
    rw [List.getD_eq_getElem?_getD,getElem?_eq_getElem this]
    exact List.getElem_mem this
   have qh:=adk o3
   have inj:∀q k,q<ops.size→k<ops.size→perm.getD q 0=perm.getD k 0→q=k:=by
    intro q k hq hk he
    have gT:q<perm.length:=by omega
    have cj:k<perm.length:=by omega
    rw [List.getD_eq_getElem?_getD,List.getD_eq_getElem?_getD,getElem?_eq_getElem gT,getElem?_eq_getElem cj] at he
    simp only [getD_some] at he
    have hp:=List.pairwise_iff_getElem.1 qh
    rcases Nat.lt_trichotomy q k with h | h | h
    ·exact absurd he (hp q k gT cj h)
    ·exact h
    ·exact absurd he.symm (hp k q cj gT h)
   have mem:∀{q d},l[q]?=some d→(d,q)∈l.zipIdx:=fun h=>List.mem_zipIdx_iff_getElem?.2 h
   refine ⟨EI,tc,⟨o1,fun q hq=>aD _ (bX q hq),inj,?_,?_,?_,?_,?_,Nat.sub_le _ _,?_,?_⟩,?_⟩
   ·intro j hj
    have se:j∈perm:=by
     apply byContradiction
     intro dh
     have sk:perm ⊆ (List.range ops.size).erase j:=by
      intro x hx
      have SJ:x≠j:=by rintro rfl;exact dh hx
      rw [List.mem_erase_of_ne SJ]
      exact mem_range.2 (aD x hx)
     have:=Kt qh sk
     rw [List.length_erase_of_mem (mem_range.2 hj),List.length_range] at this
     omega
    obtain ⟨q,hq,e⟩:=List.mem_iff_getElem.1 se
    exact ⟨q,by omega,by rw [List.getD_eq_getElem?_getD,getElem?_eq_getElem hq,getD_some,e]⟩
   ·intro q o d ho hd
    have qQ:q<ops.size:=by rw [←o1];exact (bL hd).1
    have gT:q<perm.length:=by omega
    have tk:=agf (l:=oW ios (jP (ops.toList.map fN) [])) (fl:=Q2 (oW ios (jP (ops.toList.map fN) []))) (p0:=perm) (perm:=perm) (fun i hi=>by rw [hz];exact aD i hi) q
    have lX:=hl
    unfold agd at lX
    rw [lX,hd] at tk
    rw [getElem?_eq_getElem gT] at tk
    simp only [bind_some] at tk
    have JO:perm.getD q 0=perm[q]:=by rw [List.getD_eq_getElem?_getD,getElem?_eq_getElem gT];rfl
    rw [JO] at ho
    cases SL:(oW ios (jP (ops.toList.map fN) []))[perm[q]]? with
    | none=>rw [SL] at tk;cases tk
    | some dz=>
     rw [SL] at tk
     simp only [map_some,Option.some.injEq] at tk
     have hx:=(z2 _ _ SL).1
     have nt:=g2 _ o dz.op (by simpa using ho) hx
     obtain ⟨c1,c2,c3,c4,c5⟩:=D3 nt
     have aAs:∀a,dz.op.op≠ .e (.fl a):=by
      intro a e
      rw [e] at c3
      exact avn c3
     refine ⟨dz.op,nt,?_⟩
     have plain:d.op=dz.op→dz.op.dst=d.op.dst∧dz.op.guard=d.op.guard∧tmpsOf dz.op.op.iI=tmpsOf d.op.op.iI∧((je d=false∧dz.op.op=d.op.op)∨∃a,dz.op.op=.e a.Gc∧d.op.op=.e (.fl a)∧d.op.guard=none):=by
      intro e
      refine ⟨by rw [e],by rw [e],by rw [e],.inl ⟨?_,by rw [e]⟩⟩
      cases hf:je d with
      | false=>rfl
      | true=>
       obtain ⟨a,ha⟩:=At.1 hf
       rw [e] at ha
       exact absurd ha (aAs a)
     by_cases th:(Q2 (oW ios (jP (ops.toList.map fN) []))).contains perm[q]=true
     ·rw [if_pos th] at tk
      have uD:d.op=Ej dz.op:=by rw [tk]
      unfold Ej at uD
      split at uD
      ·rename_i eo he hg
       split at uD
       ·rename_i a ha
        refine ⟨by rw [uD],by rw [uD,hg],?_,.inr ⟨a,by rw [he,anA ha],by rw [uD],by rw [uD]⟩⟩
        rw [uD,he,←anA ha]
        cases a <;> rfl
       ·exact plain uD
      ·exact plain uD
     ·rw [if_neg th] at tk
      exact plain (by rw [tk])
   ·intro q d hd k hk
    have h1:=o7 (d,q) (mem hd)
    rw [all_eq_true] at h1
    have:=h1 k (mem_range.2 hk)
    simpa using this
   ·intro j e he
    by_cases hj:j<ops.size
    ·have hg:ops.toList[j]?=some ops[j]:=by simp [hj]
     have:(ops.toList.map fN).getD j []=fN ops[j]:=by simp [getD,hj]
     rw [this] at he
     have:=G8 tc j ops[j] hg e he
     omega
    ·have:(ops.toList.map fN).getD j []=[]:=by simp [getD,le_of_not_lt hj]
     rw [this] at he
     simp at he
   ·intro i j oi oj hi hj
    have h1:=o5 (oj,j) (mem hj)
    rw [all_eq_true] at h1
    exact h1 (oi,i) (mem hi)
   ·intro q d hd hq hE
    have h1:=o6 (d,q) (mem hd)
    simp only at h1
    rw [if_pos hq,hE] at h1
    simpa using h1
   ·intro q d hd hq
    have h1:=o6 (d,q) (mem hd)
    simp only at h1
    rw [if_neg (by omega)] at h1
    simpa using h1
   ·intro q d hd hf
    have h1:=o8 (d,q) (mem hd)
    simp only [hf,Bool.not_true,Bool.false_or,Option.isNone_iff_eq_none] at h1
    exact h1
  ·cases hc
 ·cases hc
theorem ayK {out:Bool} {id:Nat} {ops:Array Oper} {l:List cY} {perm:List Nat} {K:(Nat→Value)→ae→Prop} {f:Nat→Value} {h:ae} (hc:IC P N ops=some (l,perm)) (hi:lL P l 0 [] [] K f h):
  ∃f' h',gZ P N out (.region id ops true) f h .normal f' h'∧K f' h':=by
 obtain ⟨EI,tc,L,nT⟩:=avm hc
 obtain ⟨F,H,V,f1,f2,f3,T,_,_⟩:=SX hi
 simp only [zero_add] at f3
 refine ⟨F l.length,H l.length,?_,f3⟩
 intro S hS B ρ a w R
 refine wpIn_region_draw ?_
 intro t
 have Sw:Region.schedule (P.follows .mixedOrders) ops t=Region.linearise .any ops t:=by
  unfold Region.schedule
  rw [EI]
  simp
 rw [Sw]
 have bW:=ago tc t
 have EK:∀(l:List cY) (i:Nat) (f:Nat→Value),eY V [] l i f=f:=by
  intro l
  induction l with
  | nil=>intro i f;rfl
  | cons a l ih=>intro i f;simp [eY,ih]
 obtain ⟨os,iZ⟩:=xR L nT T (k:=0) (uE l) (by omega)
 rw [zero_add] at iZ
 have R0:eJ P N B ρ f h a { w with drawn:=w.drawn+1 }:=R.mono (Tr.drew R.heap _) (R.heap.drew _)
 have Jk:H 0=h:=f2
 have TG:Tr ρ (H 0) w ρ (H (uE l)) { w with drawn:=w.drawn+1 }:=by
  rw [iZ,Jk]
  exact (Tr.drew R.heap _).trans (Tr.Jc R0.heap os)
 have R1:eJ P N B ρ (eY V [] l 0 (F 0)) (H (uE l)) a { w with drawn:=w.drawn+1 }:=by
  rw [EK,f1,iZ,Jk]
  exact R0.mono (Tr.Jc R0.heap os) (R0.heap.Jc os)
 refine avy L nT T bW (fun j e hj=>by simp at hj) (fun i hi=>by simp at hi) [] (fun q=>by simp) (uE l) (le_refl _) L.head (fun e oe he _ hf=>?_) S B ρ a _ R1 (le_refl _) ?_ TG _ ?_
 ·constructor
  ·intro h;simp at h
  ·intro aD
   -- an effect at gN head is a float
   rename_i hE
   rw [L.low e oe he aD hE] at hf
   cases hf
 ·intro q d hq hf _
  obtain ⟨a',kC⟩:=At.1 hf
  obtain ⟨_,oo,g1,g2,g3,_,g5,_⟩:=BP T hq kC (nT q d hq hf)
  have hqm:q<uE l:=by
   apply byContradiction
   intro h'
   rw [L.high q d hq (by omega)] at hf
   cases hf
  constructor
  ·obtain ⟨os',EO⟩:=xR L nT T (k:=0) q (by omega)
   rw [zero_add,Jk] at EO
   cases hr:ρ (H q).length with
   | none=>rfl
   | some r=>
    have:=R.heap.lt hr
    rw [EO] at this
    simp at this
    omega
  ·obtain ⟨os',EO⟩:=xR L nT T (k:=q+1) (uE l-(q+1)) (by omega)
   rw [show q+1+(uE l-(q+1))=uE l by omega] at EO
   rw [EO]
   have iY:=Pj g1 (H q).length
   rw [←g2] at iY
   unfold eC
   rw [iY]
   simp only [bind_some]
   rw [getElem?_append_left (by rw [g3];simp)]
 ·intro av a' w' R' T'
  refine ⟨rfl,av,R',?_⟩
  rw [Jk] at T'
  exact T'
theorem afI {out:Bool} {id:Nat} {ops:Array Oper} {l:List cY} {K:(Nat→Value)→ae→Prop} {f:Nat→Value} {h:ae} (hc:Qn P N ops=some l) (hi:lL P l 0 [] [] K f h):
  ∃f' h',gZ P N out (.region id ops true) f h .normal f' h'∧K f' h':=by
 unfold Qn at hc
 split at hc
 ·rename_i l' hl
  simp at hc;subst hc
  exact ayL hl hi
 ·rw [map_eq_some_iff] at hc
  obtain ⟨⟨l',perm⟩,hl,rfl⟩:=hc
  exact ayK hl hi
end
end
section
section
variable {P : Program} {N : Nat}
theorem Ky (f:Nat→Value) (ks ls:List Nat) (xs:List Value) (h:xs=ls.map f):tU (kF (ks++ls) (ks.map f++xs)) f:=by
 subst h
 rw [←List.map_append]
 exact Fy f (ks++ls)
theorem S8 {out:Bool}:∀{c:Code} {hs dT:Hints} {ic:fx},fM P N c hs=some (ic,dT)→(out=true∨iO c=true)→∀{K:Exit→(Nat→Value)→ae→Prop} {f:Nat→Value} {h:ae},jv P ic K f h→
  ∃e f' h',gZ P N out c f h e f' h'∧K e f' h':=by
 intro c
 induction c with
 | skip=>
  intro hs dT ic hc ho K f h hi
  simp [fM] at hc
  obtain ⟨rfl,_⟩:=hc
  exact ⟨.normal,f,h,fun S hS B ρ a w R=>wpIn_skip ⟨rfl,ρ,R,Tr.refl R.heap⟩,hi⟩
 | region id ops draw=>
  intro hs dT ic hc ho K f h hi
  cases draw with
  | true=>
   simp only [fM] at hc
   split at hc
   ·rename_i l hl
    split at hc
    ·rename_i wk
     simp at hc
     obtain ⟨rfl,_⟩:=hc
     have hO:=adU (adm wk) hi
     rw [IG] at hO
     obtain ⟨f',h',r1,r2⟩:=afI (id:=id) hl hO
     exact ⟨.normal,f',h',r1,r2⟩
    ·cases hc
   ·cases hc
  | false=>
   simp only [fM] at hc
   split at hc
   ·rename_i l hl
    split at hc
    ·rename_i wk
     simp only [Option.some.injEq] at hc
     have he:ic=(rz (uz l) hs).1:=by rw [hc]
     subst he
     obtain ⟨f',h',r1,r2⟩:=aEu (i:=0) (os:=ops.toList) (ops:=ops) (fun k o hk=>by simpa using hk) (by rw [I7];exact hl) (agl wk) hi
     refine ⟨.normal,f',h',gZ.region ?_,r2⟩
     rw [List.range_eq_range']
     simpa using r1
    ·cases hc
   ·simp at hc
    obtain ⟨rfl,_⟩:=hc
    exact (show False from hi).elim
 | seq x y Ar As=>
  intro hs dT ic hc ho K f h hi
  have zW:out=true∨iO x=true:=ho.imp id fun h=>by simp only [iO,and_eq_true] at h;exact h.1
  have zX:out=true∨iO y=true:=ho.imp id fun h=>by simp only [iO,and_eq_true] at h;exact h.2
  have both:∀{a b:fx} {h0 ju iF:Hints} {ls:List Nat},fM P N x hs=some (a,h0)→fM P N y ju=some (b,iF)→jv P (.seq a (xD ls b)) K f h→∃e f' h',gZ P N out (.seq x y) f h e f' h'∧K e f' h':=by
   intro a b h0 ju iF ls ha hb hi
   obtain ⟨e,cZ,h₁,r1,r2⟩:=Ar ha zW hi
   by_cases he:e=.normal
   ·subst he
    obtain ⟨Q6,hw,r3⟩:=ac8 r2
    obtain ⟨e',awX,JW,s1,s2⟩:=As hb zX r3
    exact ⟨e',awX,JW,r1.seq (s1.weaken hw),s2⟩
   ·refine ⟨e,cZ,h₁,r1.aFh he,?_⟩
    cases e <;> first | exact absurd rfl he | exact r2
  simp only [fM] at hc
  split at hc
  ·rename_i a h0 ju ha
   split at hc
   ·rename_i b iF hb
    simp at hc
    obtain ⟨rfl,_⟩:=hc
    exact both ha hb hi
   ·cases hc
  ·rename_i a ha
   split at hc
   ·rename_i b iF hb
    simp at hc
    obtain ⟨rfl,_⟩:=hc
    exact both (ls:=[]) ha hb hi
   ·cases hc
  ·cases hc
 | cond c x y Ar As=>
  intro hs dT ic hc ho K f h hi
  have zW:out=true∨iO x=true:=ho.imp id fun h=>by simp only [iO,and_eq_true] at h;exact h.1
  have zX:out=true∨iO y=true:=ho.imp id fun h=>by simp only [iO,and_eq_true] at h;exact h.2
  simp only [fM] at hc
  split at hc
  ·rename_i aE
   split at hc
   ·rename_i a ju ha
    split at hc
    ·rename_i b iF hb
     simp at hc
     obtain ⟨rfl,_⟩:=hc
     rw [af1] at hi
     simp only [pS] at hi
     split at hi
     ·rename_i t ht
      cases t
      ·simp at hi
       obtain ⟨e,cZ,h₁,r1,r2⟩:=As hb zX hi
       exact ⟨e,cZ,h₁,gZ.cond aE ht (by simpa using r1),r2⟩
      ·simp at hi
       obtain ⟨e,cZ,h₁,r1,r2⟩:=Ar ha zW hi
       exact ⟨e,cZ,h₁,gZ.cond aE ht (by simpa using r1),r2⟩
     ·exact hi.elim
    ·cases hc
   ·cases hc
  ·cases hc
 | block id c ih=>
  intro hs dT ic hc ho K f h hi
  simp only [fM] at hc
  split at hc
  ·rename_i a ju ha
   simp at hc
   obtain ⟨rfl,_⟩:=hc
   obtain ⟨e,cZ,h₁,r1,r2⟩:=ih ha (ho.imp (fun h=>h) fun h=>h) hi
   refine ⟨_,cZ,h₁,r1.block,?_⟩
   cases e with
   | exit i=>
    simp only [bO] at r2⊢
    split <;> rename_i h
    ·rw [if_pos h] at r2;exact r2
    ·rw [if_neg h] at r2;exact r2
   | _=>exact r2
  ·cases hc
 | loop c ih=>
  intro hs dT ic hc ho K f h hi
  simp only [fM] at hc
  split at hc
  ·rename_i ks ls ju
   split at hc
   ·rename_i a iF ha
    simp at hc
    obtain ⟨rfl,_⟩:=hc
    obtain ⟨J,μ,h0,Ss⟩:=hi
    have key:∀(n:Nat) (xs:List Value) (hh:ae),μ xs hh=n→J xs hh→∃e f' h',qA P N out c (kF (ks++ls) (ks.map f++xs)) hh e f' h'∧K e f' h':=by
     intro n
     induction n using Nat.strongRecOn with
     | _ n tE=>
      intro xs hh hn hJ
      obtain ⟨e,cZ,h₁,r1,r2⟩:=ih ha (ho.imp (fun h=>h) fun h=>h) (Ss xs hh hJ)
      by_cases he:e=.normal
      ·subst he
       obtain ⟨hk,Rm,aD⟩:=r2
       obtain ⟨e',f',h',s1,s2⟩:=tE (μ (ls.map cZ) h₁) (by omega) (ls.map cZ) h₁ rfl Rm
       refine ⟨e',f',h',qA.next r1 (s1.weaken ?_),s2⟩
       rw [←hk]
       exact Ky cZ ks ls _ rfl
      ·refine ⟨e,cZ,h₁,qA.leave he r1,?_⟩
       cases e <;> first | exact absurd rfl he | exact r2
    obtain ⟨e,f',h',s1,s2⟩:=key _ (ls.map f) h rfl h0
    exact ⟨e,f',h',(s1.weaken (Ky f ks ls _ rfl)).run,s2⟩
   ·cases hc
  ·cases hc
 | exit id=>
  intro hs dT ic hc ho K f h hi
  simp [fM] at hc
  obtain ⟨rfl,_⟩:=hc
  exact ⟨.exit id,f,h,fun S hS B ρ a w R=>wpIn_exit ⟨rfl,ρ,R,Tr.refl R.heap⟩,hi⟩
 | ret=>
  intro hs dT ic hc ho K f h hi
  simp [fM] at hc
  obtain ⟨rfl,_⟩:=hc
  exact ⟨.ret,f,h,fun S hS B ρ a w R=>wpIn_ret ⟨rfl,ρ,R,Tr.refl R.heap⟩,hi⟩
 | rangeFunc g ps ky body=>
  intro hs dT ic hc ho K f h hi
  have ho:out=true:=ho.resolve_right (by simp [iO])
  subst ho
  simp only [fM] at hc
  split at hc
  ·rename_i ls ju
   split at hc
   ·rename_i hk
    simp at hc
    obtain ⟨rfl,_⟩:=hc
    simp only [and_eq_true] at hk
    obtain ⟨h',r1,r2⟩:=amQ hk.1 hi
    exact ⟨.normal,f,h',r1,r2⟩
   ·cases hc
  ·cases hc
 | _=>intro hs dT ic hc;simp [fM] at hc
end
end
section
section
variable {P : Program} {ρ : aK} {h : ae} {w : World}
def CP:List Tmp→List Value→(Nat→Value)→Nat→Value
 | p::ps,v::vs,f=>CP ps vs (yy f p v)
 | _,_,f=>f
theorem alL {N:Nat}:∀{ps:List Tmp} {args args':List Value} {f:Nat→Value} {tmps:Array Value},bG ρ args args'→(∀p∈ps,p<N)→tmps.size=N→(∀t,ax ρ (f t) (tmps.getD t Go.undef))→
  ((ps.zip args').foldl (fun (t:Array Value) (p,v)=>t.setIfInBounds p v) tmps).size=N∧
   ∀t,ax ρ (CP ps args f t) (((ps.zip args').foldl (fun (t:Array Value) (p,v)=>t.setIfInBounds p v) tmps).getD t Go.undef)
 | [],args,args',f,tmps,_,_,hs,hf=>⟨hs,hf⟩
 | p::ps,_,_,f,tmps,.nil,_,hs,hf=>⟨hs,hf⟩
 | p::ps,_,_,f,tmps,.cons (x:=x) (y:=y) ha hr,hp,hs,hf=>by
  simp only [List.zip_cons_cons,List.foldl_cons,CP]
  refine alL hr (fun q hq=>hp q (by simp [hq])) (by simpa using hs) ?_
  intro t
  simp only [tS]
  by_cases ht:t=p
  ·subst ht
   have:t<tmps.size:=by rw [hs];exact hp t (by simp)
   simp [Array.getD,this]
   exact ha
  ·rw [if_neg ht]
   have e:(tmps.setIfInBounds p y).getD t Go.undef=tmps.getD t Go.undef:=by
    simp only [Array.getD_eq_getD_getElem?,Array.getElem?_setIfInBounds]
    rw [if_neg (by omega)]
   rw [e]
   exact hf t
theorem marks.put {B:Nat} {l:Nat} {o:Obj}:∀{ds:List Deferred},(∀d∈ds,d≠mark l)→marks B ds w→marks B ds (w.putObj l o)
 | [],_,h=>by simpa [marks] using h
 | d::ds,bp,⟨⟨D,h1,h2,h3,h4⟩,h5⟩=>by
  refine ⟨⟨D,h1,h2,?_,h4⟩,marks.put (fun d hd=>bp d (by simp [hd])) h5⟩
  rw [AW]
  ·exact h3
  ·rintro rfl
   exact bp d (by simp) h1
theorem marks.ne {B l:Nat} {rec:Loop} (hl:w.heap[l]?=some (.loop rec)):∀{ds:List Deferred},marks B ds w→∀d∈ds,d≠mark l
 | [],_,d,hd=>by simp at hd
 | d::ds,⟨⟨D,h1,h2,h3,h4⟩,h5⟩,d',hd=>by
  rcases mem_cons.1 hd with rfl | hd
  ·rintro e
   rw [h1] at e
   obtain rfl:=agI e
   rw [hl] at h3
   cases h3
  ·exact marks.ne hl h5 d' hd
theorem ahc {av:aK} {h':ae} {w':World} (H':a9 P av h' w') (T:Tr ρ h w av h' w') {l:Nat} {rec:Loop} (aD:l<w.heap.size) (hl:w'.heap[l]?=some (.loop rec))
  (no:∀j s,ρ j=some s→s.bw=l→¬cF h j):∀j s,av j=some s→s.bw=l→¬fq h' j:=by
 intro j s hj hs hv
 obtain ⟨c,ls,vs,hc⟩:=H'.afY hl hj hs hv
 cases hr:ρ j with
 | some s'=>
  have:=T.ext j s' hr
  rw [hj] at this
  cases this
  exact no j s hr hs (T.kinds j (T.jQ j s hr) (.inr (.inr (.inl ⟨_,_,_,hc⟩))))
 | none=>
  obtain ⟨_,q⟩:=T.fresh j s hj hr
  rcases q with q | ⟨j',s',q1,q2,q3⟩
  ·omega
  ·exact no j' s' q1 (q2.trans hs) q3
theorem a9.Lv (H:a9 P ρ h w) {i:Nat} {r:RI} {o:aj} {x:Obj} (hi:ρ i=some r) (no:∀j s,ρ j=some s→s.bw=r.bw→¬fq h j) (ho:lM ρ (w.putObj r.bw x) r o):
  a9 P ρ (h.set i o) (w.putObj r.bw x):=by
 have aD:=H.lt hi
 have ml:∀j,j≠i→cF (h.set i o) j→cF h j:=by
  intro j e hm
  unfold cF at hm⊢
  rw [getElem?_set_ne (Ne.symm e)] at hm
  exact hm
 have ll:∀j,j≠i→fq (h.set i o) j→fq h j:=by
  intro j e hm
  unfold fq at hm⊢
  rw [getElem?_set_ne (Ne.symm e)] at hm
  exact hm
 refine ⟨?_,?_,H.aY⟩
 ·intro j s hj
  by_cases e:j=i
  ·subst e
   rw [hi] at hj
   cases hj
   exact ⟨o,by rw [getElem?_set_self aD],ho⟩
  ·obtain ⟨o',dS,hr⟩:=H.obj j s hj
   refine ⟨o',by rw [getElem?_set_ne (Ne.symm e)];exact dS,?_⟩
   by_cases hd:o'=.dead
   ·subst hd;trivial
   ·refine hr.mono (.refl _) (AW ?_)
    intro e'
    exact no j s hj e' ⟨o',dS,hd⟩
 ·intro a b s t ha hb bD hm hl
  by_cases ea:a=i <;> by_cases eb:b=i
  ·omega
  ·subst ea
   rw [hi] at ha;cases ha
   exact absurd (ll b eb hl) (no b t hb bD.symm)
  ·subst eb
   rw [hi] at hb;cases hb
   exact absurd (ml a ea hm).live (no a s ha bD)
  ·exact H.inj a b s t ha hb bD (ml a ea hm) (ll b eb hl)
theorem Tr.Lv {av:aK} {h':ae} {w':World} {i:Nat} (hm:cF h i) (T:Tr ρ (h.set i .dead) w av h' w') (o:aj):Tr ρ h w av (h'.set i o) w':=by
 have ml:∀j,cF (h.set i .dead) j→cF h j:=by
  intro j hj
  by_cases e:j=i
  ·subst e;exact hm
  ·unfold cF at hj⊢
   rw [getElem?_set_ne (Ne.symm e)] at hj
   exact hj
 exact {
  ext:=T.ext
  len:=by simpa using T.len
  jQ:=fun j s hj=>by simpa using T.jQ j s hj
  kinds:=by
   intro j hj EC
   by_cases e:j=i
   ·subst e;exact hm
   ·refine ml j (T.kinds j (by simpa using hj) ?_)
    unfold cF at EC⊢
    rw [getElem?_set_ne (Ne.symm e)] at EC
    exact EC
  fresh:=by
   intro j s h1 h2
   obtain ⟨q1,q2⟩:=T.fresh j s h1 h2
   refine ⟨by simpa using q1,q2.imp (fun h=>h) ?_⟩
   rintro ⟨j',s',a,b,c⟩
   exact ⟨j',s',a,b,ml j' c⟩
  ji:=T.ji
  iK:=fun k hk dh=>T.iK k hk fun j s hj hs hmm=>dh j s hj hs (ml j hmm)
  os:=T.os
  tape:=T.tape
  output:=T.output }
theorem Tr.alU {i:Nat} {r:RI} (hd:∀j s,ρ j=some s→j<h.length) (hi:ρ i=some r) {h₁:ae} (hl:h₁.length=h.length) (hm:cF h₁ i) (x:Obj):Tr ρ h₁ w ρ h₁ (w.putObj r.bw x) where
 ext:=.refl _
 len:=le_refl _
 jQ:=fun j s hj=>by rw [hl];exact hd j s hj
 kinds:=fun _ _ h=>h
 fresh:=fun j s h1 h2=>by rw [h1] at h2;cases h2
 ji:=by rw [World.putObj_size];exact le_refl _
 iK:=fun k hk dh=>AW fun e=>dh i r hi e.symm hm
 os:=rfl
 tape:=rfl
 output:=rfl
theorem aFo {h:ae} {i:Nat} {o:aj} (hi:h[i]?=some o):h.set i o=h:=by
 apply List.ext_getElem?
 intro j
 by_cases e:j=i
 ·subst e
  rw [getElem?_set_self (bL hi).1,hi]
 ·rw [getElem?_set_ne (Ne.symm e)]
theorem aGF {i:Nat} {c:Du} {ls:List Nat} {vs args:List Value} {ia ib:fx} {ju iF ayk ayl:Hints} {K:Value→ae→Prop} (hi:h[i]?=some (.loop c ls vs)) (hn:args.length=c.ps.size)
  (Cg:c.ps.all (·<c.N)=true) (ha:fM P c.N c.ky ju=some (ia,ayk)) (hb:fM P c.N c.body iF=some (ib,ayl)) (na:iO c.ky=true) (nb:iO c.body=true)
  (hw:jv P ia (fun e f1 h1=>e=.normal∧h1[i]?=some .dead∧jv P ib (fun e _ h2=>e=.normal∧h2[i]?=some .dead∧K (.bool true) (h2.set i (.loop c ls vs))) f1 h1) (CP c.ps.toList args (kF ls vs)) (h.set i .dead)):
  E9 P i args h K:=by
 obtain ⟨e1,f1,h1,r1,rfl,d1,mS⟩:=S8 (out:=false) ha (.inr na) hw
 obtain ⟨e2,f2,h2,r2,rfl,d2,hk⟩:=S8 (out:=false) hb (.inr nb) mS
 refine ⟨.bool true,h2.set i (.loop c ls vs),?_,hk⟩
 intro ρ r args' w jF ta H
 have hmi:cF h i:=.inr (.inr (.inl ⟨_,_,_,hi⟩))
 obtain ⟨o,ho,sg⟩:=H.obj i r jF
 rw [hi] at ho
 cases ho
 obtain ⟨rec,g1,g2,g3,g4,g5,g6,g7,g8⟩:=sg
 have aD:=(Array.getElem?_eq_some_iff.1 g1).1
 have jJ:args'.size=rec.params.size:=by
  have:=ta.length
  rw [g6,←hn,this]
  simp
 refine ⟨rec.fn,_,rec.assign,rec.body,run_yield g1 jJ,?_⟩
 rw [g4,g5]
 have Ez:(rec.params.zip args').foldl (fun (t:Array Value) (p,v)=>t.setIfInBounds p v) rec.tmps=(c.ps.toList.zip args'.toList).foldl (fun (t:Array Value) (p,v)=>t.setIfInBounds p v) rec.tmps:=by
  rw [g6,←Array.toList_zip,Array.foldl_toList]
 obtain ⟨p1,p2⟩:=alL (N:=c.N) (ps:=c.ps.toList) (f:=kF ls vs) (tmps:=rec.tmps) ta (by
  intro p hp
  rw [Array.all_eq_true'] at Cg
  exact of_decide_eq_true (Cg p (by simpa using hp))) g7 g8
 have R0:eJ P c.N w.heap.size ρ (CP c.ps.toList args (kF ls vs)) (h.set i .dead) { tmps:=(rec.params.zip args').foldl (fun (t:Array Value) (p,v)=>t.setIfInBounds p v) rec.tmps,defers:=[] } w:=
  ⟨by rw [Ez];exact p1,le_refl _,fun t=>by rw [Ez];exact p2 t,H.kill i⟩
 refine roundIn_of_wpIn (F:=Fence.wide) trivial ?_
 refine wpIn_mono (r1 (some r.bw) (fun h=>by cases h) _ ρ _ w R0) ?_
 rintro e a1 w1 ⟨rfl,qy,R1,T1⟩
 have u1:∀j s,ρ j=some s→s.bw=r.bw→¬cF (h.set i .dead) j:=by
  intro j s hj hs hm
  by_cases e:j=i
  ·subst e
   unfold cF at hm
   rw [getElem?_set_self (H.lt jF)] at hm
   rcases hm with ⟨_,_,h1⟩ | ⟨_,h1⟩ | ⟨_,_,_,h1⟩ | ⟨_,_,h1⟩ | ⟨_,_,_,h1⟩ | ⟨_,_,_,_,h1⟩ <;> cases h1
  ·refine e (H.inj j i s r hj jF hs ?_ hmi.live)
   unfold cF at hm⊢
   rw [getElem?_set_ne (Ne.symm e)] at hm
   exact hm
 have l1:w1.heap[r.bw]?=some (.loop rec):=(T1.iK _ aD u1).trans g1
 have JC:=(Array.getElem?_eq_some_iff.1 l1).1
 refine ⟨_,run_beginRound l1 g2,?_⟩
 have TK:=ahc R1.heap T1 aD l1 u1
 have l2:(w1.putObj r.bw (.loop { rec with state:=.busy })).heap[r.bw]?=some (.loop { rec with state:=.busy }):=World.putObj_heap_same JC
 have R2:eJ P c.N w.heap.size qy f1 h1 a1 (w1.putObj r.bw (.loop { rec with state:=.busy })):=
  ⟨R1.size,marks.put (marks.ne l1 R1.defers) R1.defers,R1.tmp,R1.heap.put TK _⟩
 refine wpIn_mono (r2 (some r.bw) (fun h=>by cases h) _ qy a1 _ R2) ?_
 rintro e a3 w3 ⟨rfl,Dd,R3,T3⟩
 have l3:w3.heap[r.bw]?=some (.loop { rec with state:=.busy }):=(T3.iK _ (by simpa using JC) fun j s hj hs hm=>TK j s hj hs hm.live).trans l2
 have no3:=ahc R3.heap T3 (by simpa using JC) l3 fun j s hj hs hm=>TK j s hj hs hm.live
 have ayf:({ ({ rec with state:=.busy }:Loop) with state:=if (none:Option Code).isNone then .ready else .done,pending:=none }:Loop)=rec:=by
  cases rec
  simp only at g2 g3
  subst g2
  subst g3
  rfl
 have he:=run_endRound (P:=P) none l3
 rw [ayf] at he
 have SN:qy i=some r:=T1.ext _ _ jF
 have SO:Dd i=some r:=T3.ext _ _ SN
 have RX:=(Array.getElem?_eq_some_iff.1 l3).1
 refine ⟨_,_,he,.bool true,Dd,rfl,.bool _,?_,?_⟩
 ·refine R3.heap.Lv SO no3 ⟨rec,World.putObj_heap_same RX,g2,g3,g4,g5,g6,g7,fun t=>(g8 t).mono (T1.ext.trans T3.ext)⟩
 ·have m1:cF (h1.set i (.loop c ls vs)) i:=.inr (.inr (.inl ⟨c,ls,vs,getElem?_set_self (R1.heap.lt SN)⟩))
  have m3:cF (h2.set i (.loop c ls vs)) i:=.inr (.inr (.inl ⟨c,ls,vs,getElem?_set_self (R3.heap.lt SO)⟩))
  have A:=T1.Lv hmi (.loop c ls vs)
  have B:=Tr.alU (w:=w1) (fun j s hj=>R1.heap.lt hj) SN (h₁:=h1.set i (.loop c ls vs)) (by simp) m1 (.loop { rec with state:=.busy })
  have e1:(h1.set i (.loop c ls vs)).set i .dead=h1:=by rw [List.set_set,aFo d1]
  have C:Tr qy (h1.set i (.loop c ls vs)) _ Dd (h2.set i (.loop c ls vs)) w3:=Tr.Lv m1 (by rw [e1];exact T3) _
  have D:=Tr.alU (w:=w3) (fun j s hj=>R3.heap.lt hj) SO (h₁:=h2.set i (.loop c ls vs)) (by simp) m3 (.loop rec)
  exact ((A.trans B).trans C).trans D
end
end
section
inductive kN where
 | tmp (t:Nat)
 | cell (agg:Bool) (n:Nat) (a:Nat)
def yp (r:kN) (f:Nat→Value) (h:ae):Option Value:=
 match r with
 | .tmp t=>some (f t)
 | .cell agg n a=>af agg n h (f a)
def pD:List kN→(Nat→Value)→ae→Option (List Value)
 | [],_,_=>some []
 | r::rs,f,h=>match yp r f h,pD rs f h with
  | some v,some vs=>some (v::vs)
  | _,_=>none
def pack:List Value→Value
 | [v]=>v
 | vs=>.tuple vs.toArray
def wU:List kN→(Nat→Value)→ae→(List Value→Prop)→Prop
 | [],_,_,k=>k []
 | .tmp t::rs,f,h,k=>wU rs f h fun vs=>k (f t::vs)
 | .cell agg n a::rs,f,h,k=>fS (af agg n h (f a)) fun v=>wU rs f h fun vs=>k (v::vs)
def Ls (rs:List kN) (K:Value→ae→Prop) (f:Nat→Value) (h:ae):Prop:=wU rs f h fun vs=>K (pack vs) h
theorem Lt:∀{rs:List kN} {f:Nat→Value} {h:ae} {k:List Value→Prop},wU rs f h k→∃vs,pD rs f h=some vs∧k vs
 | [],f,h,k,hr=>⟨[],rfl,hr⟩
 | .tmp t::rs,f,h,k,hr=>by
  obtain ⟨vs,h1,h2⟩:=Lt (rs:=rs) hr
  exact ⟨f t::vs,by simp [pD,yp,h1],h2⟩
 | .cell agg n a::rs,f,h,k,hr=>by
  simp only [wU,fS] at hr
  split at hr
  ·rename_i v hv
   obtain ⟨vs,h1,h2⟩:=Lt (rs:=rs) hr
   exact ⟨v::vs,by simp [pD,yp,h1,hv],h2⟩
  ·exact hr.elim
def Ps (rs:List kN) (K:Value→ae→Prop):Exit→(Nat→Value)→ae→Prop
 | .normal,f,h=>Ls rs K f h
 | .ret,f,h=>Ls rs K f h
 | _,_,_=>False
def bt (args:List Value):Nat→Value:=fun j=>args.getD j undef
def IE (P:Program):ResultVar→Option kN
 | .tmp t=>some (.tmp t)
 | .cell a t=>
  match P.underlying t with
  | some d=>if jd P t&&(oO d||P.cellsOf t==1) then some (.cell (oO d) (P.cellsOf t) a) else none
  | none=>none
def BF (P:Program):List ResultVar→Option (List kN)
 | []=>some []
 | r::rs=>match IE P r,BF P rs with
  | some x,some xs=>some (x::xs)
  | _,_=>none
def bz (P:Program) (F:FuncId) (hs:Hints):Option (Nat×fx×List kN):=
 match P.funcs[F]? with
 | some fn=>match fn.body with
  | some c=>match fM P fn.ntmps c hs,BF P fn.results.toList with
   | some (ic,_),some rs=>some (fn.ntmps,ic,rs)
   | _,_=>none
  | none=>none
 | none=>none
def bJ:Option (Nat×fx×List kN)→fx
 | some (_,c,_)=>c
 | none=>.skip
def fx.l:fx→fx
 | .seq a _=>a
 | .cut _ c=>c
 | .cond _ a _=>a
 | .block _ c=>c
 | .loop _ _ c=>c
 | c=>c
def fx.r:fx→fx
 | .seq _ b=>b
 | .cond _ _ b=>b
 | c=>c
section
variable {P : Program} {w : World} {ρ : aK} {h : ae}
def A0 (tmps:Array Value):ResultVar→Sem Value
 | .tmp t=>pure (tmps.getD t Go.undef)
 | .cell b t=>do loadVar t (←asAddr (tmps.getD b Go.undef))
theorem aEB (fn:Func) (tmps:Array Value):results fn tmps=(do let vs ←fn.results.mapM (A0 tmps);pure (if h:vs.size=1 then vs[0] else .tuple vs)):=by
 have e:(fun r:ResultVar=>(match r with
   | .tmp t=>(pure (tmps.getD t Go.undef):Sem Value)
   | .cell a t=>do loadVar t (←asAddr (tmps.getD a Go.undef))))=A0 tmps:=by
  funext r
  cases r <;> rfl
 rw [←e]
 rfl
theorem aFg {N B:Nat} {f:Nat→Value} {a:Act} (R:eJ P N B ρ f h a w) {r:ResultVar} {x:kN} (hc:IE P r=some x) {v:Value} (hv:yp x f h=some v):
  ∃v',(A0 a.tmps r).run P w=.ok v' w∧ax ρ v v':=by
 cases r with
 | tmp t=>
  simp [IE] at hc;subst hc
  simp [yp] at hv;subst hv
  exact ⟨_,rfl,R.tmp t⟩
 | cell b t=>
  simp only [IE] at hc
  split at hc
  ·rename_i d ht
   split at hc
   ·rename_i hk
    simp at hc;subst hc
    simp only [and_eq_true] at hk
    simp only [yp] at hv
    obtain ⟨v',q1,q2⟩:=am3 R.heap ht hk.1 hv (R.tmp b)
    refine ⟨v',?_,q2⟩
    have kW:=hv
    unfold af at kW
    split at kW
    ·rename_i i o hfb
     have:=R.tmp b
     rw [hfb] at this
     obtain ⟨r',_,e⟩:=this.FW
     simp only [A0]
     rw [e] at q1⊢
     simpa [Instr.loadAt,Instr.sureAddr,asAddr] using q1
    ·cases kW
   ·cases hc
  ·cases hc
theorem am9 {α β:Type} (g:α→Sem β) (w:World):∀{xs:List α} {ys:List β},(∀(k:Nat) (x:α),xs[k]?=some x→∃y,ys[k]?=some y∧(g x).run P w=.ok y w)→xs.length=ys.length→(xs.mapM g).run P w=.ok ys w
 | [],[],_,_=>rfl
 | x::xs,y::ys,h,hl=>by
  obtain ⟨y',h1,h2⟩:=h 0 x rfl
  simp at h1;subst h1
  have ih:=am9 g w (xs:=xs) (ys:=ys) (fun k a hk=>by simpa using h (k+1) a (by simpa using hk)) (by simpa using hl)
  simp only [List.mapM_cons,Sem.run_bind,h2,Result.andThen_ok,ih,Sem.run_pure]
theorem anb {N B:Nat} {f:Nat→Value} {a:Act} (R:eJ P N B ρ f h a w):∀{l:List ResultVar} {rs:List kN} {vs:List Value},BF P l=some rs→pD rs f h=some vs→
  ∃jS:List Value,bG ρ vs jS∧l.length=jS.length∧∀(k:Nat) (r:ResultVar),l[k]?=some r→∃y,jS[k]?=some y∧(A0 a.tmps r).run P w=.ok y w
 | [],rs,vs,hc,hv=>by
  simp [BF] at hc;subst hc
  simp [pD] at hv;subst hv
  exact ⟨[],.nil,rfl,fun k r hk=>by simp at hk⟩
 | r::l,rs,vs,hc,hv=>by
  simp only [BF] at hc
  split at hc
  ·rename_i x xs h1 h2
   simp at hc;subst hc
   simp only [pD] at hv
   split at hv
   ·rename_i v vs h3 h4
    simp at hv;subst hv
    obtain ⟨v',q1,q2⟩:=aFg R h1 h3
    obtain ⟨jS,s1,s2,s3⟩:=anb R h2 h4
    refine ⟨v'::jS,.cons q2 s1,by simp [s2],?_⟩
    intro k r' hk
    cases k with
    | zero=>simp at hk;subst hk;exact ⟨v',rfl,q1⟩
    | succ k=>simpa using s3 k r' (by simpa using hk)
   ·cases hv
  ·cases hc
theorem anc {N B:Nat} {f:Nat→Value} {a:Act} (R:eJ P N B ρ f h a w) {fn:Func} {rs:List kN} {vs:List Value} (hc:BF P fn.results.toList=some rs) (hv:pD rs f h=some vs):
  ∃v',(results fn a.tmps).run P w=.ok v' w∧ax ρ (pack vs) v':=by
 obtain ⟨jS,h1,h2,h3⟩:=anb R hc hv
 have hm:=am9 (P:=P) (A0 a.tmps) w h3 h2
 have gp:(fn.results.mapM (A0 a.tmps)).run P w=.ok jS.toArray w:=by
  rw [Array.mapM_eq_mapM_toList]
  simp only [Sem.run_map,hm,Result.andThen_ok]
 refine ⟨if h:jS.toArray.size=1 then jS.toArray[0] else .tuple jS.toArray,?_,?_⟩
 ·rw [aEB]
  simp only [Sem.run_bind,gp,Result.andThen_ok,Sem.run_pure]
 ·cases h1 with
  | nil=>simpa [pack] using ax.sJ (ρ:=ρ) .nil
  | cons a1 a2=>
   cases a2 with
   | nil=>simpa [pack] using a1
   | cons b1 b2=>simpa [pack] using ax.sJ (.cons a1 (.cons b1 b2))
theorem adQ {args:List Value} {args':Array Value} (hv:bG ρ args args'.toList) (N:Nat) (t:Nat):ax ρ (bt args t) ((args'++replicate (N-args'.size) Go.undef).getD t Go.undef):=by
 unfold bt
 have hl:=hv.length
 by_cases ht:t<args.length
 ·obtain ⟨y,hy,hr⟩:=hv.get (k:=t) (x:=args[t]) (getElem?_eq_getElem ht)
  have hs:t<args'.size:=by simpa using (by omega:t<args'.toList.length)
  have e1:args.getD t undef=args[t]:=by simp [getD,ht]
  rw [e1,Array.getD_eq_getD_getElem?,Array.getElem?_append_left hs]
  simp only [getElem?_toList] at hy
  rw [hy]
  exact hr
 ·have e1:args.getD t undef=undef:=by simp [getD,le_of_not_lt ht]
  have e2:(args'++replicate (N-args'.size) Go.undef).getD t Go.undef=undef:=by
   have hs:¬t<args'.size:=by simp at hl;omega
   rw [Array.getD_eq_getD_getElem?,Array.getElem?_append_right (by omega)]
   by_cases h2:t-args'.size<N-args'.size
   ·simp [h2]
   ·simp [h2]
  rw [e1,e2]
  exact ax.undef _
theorem Tr.azT {av:aK} {h':ae} {w':World} (T:Tr ρ h w av h' w') {l:Nat} (hl:w.heap.size≤l) (o:Obj):Tr ρ h w av h' (w'.putObj l o) where
 ext:=T.ext
 len:=T.len
 jQ:=T.jQ
 kinds:=T.kinds
 fresh:=T.fresh
 ji:=by rw [World.putObj_size];exact T.ji
 iK:=fun k hk dh=>by rw [AW (by omega)];exact T.iK k hk dh
 os:=T.os
 tape:=T.tape
 output:=T.output
theorem Tm {av:aK} {h':ae} {fn:Func} {tmps:Array Value} {Q:Ending→World→Prop}:∀{ds:List Deferred} {w':World},marks w.heap.size ds w'→a9 P av h' w'→Tr ρ h w av h' w'→
  (∀kh,a9 P av h' kh→Tr ρ h w av h' kh→∃v,(results fn tmps).run P kh=.ok v kh∧Q (.returned v) kh)→LeavesInM Fence.wide 0 P fn tmps Q ds .returning w'
 | [],w',_,H,T,hq=>hq w' H T
 | d::ds,w',⟨⟨D,h1,h2,h3,h4⟩,h5⟩,H,T,hq=>by
  refine ⟨by simp,.inl ⟨D,_,by rw [h1];rfl,run_takeDeferred h3,?_⟩⟩
  exact Tm (marks.put (fun d hd=>h4 d hd) h5) (H.put (fun j s hj hs=>H.TN h3 hj hs) _) (T.azT h2 _) hq
theorem afG {F:FuncId} {N:Nat} {ic:fx} {rs:List kN} {hs:Hints} (hc:bz P F hs=some (N,ic,rs)) {args:List Value} (ha:args.length≤N) {K:Value→ae→Prop}
  (hi:jv P ic (Ps rs K) (bt args) h):sA P F args h K:=by
 unfold bz at hc
 split at hc
 ·rename_i fn hf
  split at hc
  ·rename_i c hb
   split at hc
   ·rename_i ic' _ VZ h1 h2
    simp at hc
    obtain ⟨hN,rfl,rfl⟩:=hc
    obtain ⟨e,f',h',r1,r2⟩:=S8 (out:=true) h1 (.inl rfl) hi
    have tu:(e=.normal∨e=.ret)∧Ls VZ K f' h':=by
     cases e <;> first | exact ⟨.inl rfl,r2⟩ | exact ⟨.inr rfl,r2⟩ | exact r2.elim
    obtain ⟨he,tu⟩:=tu
    obtain ⟨vs,uI,tu⟩:=Lt tu
    ·refine ⟨pack vs,h',?_,tu⟩
     intro ρ args' w hv H
     refine callsIn_wide.1 (callsIn_of_wp_marks (F:=Fence.wide) (n:=0) hf hb trivial ?_ rfl)
     have jJ:args'.size=args.length:=by have:=hv.length;simpa using this.symm
     have R:eJ P fn.ntmps w.heap.size ρ (bt args) h { tmps:=args'++replicate (fn.ntmps-args'.size) Go.undef,defers:=[] } w:=⟨by simp;omega,le_refl _,adQ hv fn.ntmps,H⟩
     refine wpIn_mono (r1 none (fun _=>rfl) _ ρ _ w R) ?_
     rintro e' a' w' ⟨rfl,av,R',T⟩
     have key:LeavesInM Fence.wide 0 P fn a'.tmps (fun e w'=>∃v' av,e=.returned v'∧ax av (pack vs) v'∧a9 P av h' w'∧Tr ρ h w av h' w') a'.defers .returning w':=by
      refine Tm R'.defers R'.heap T ?_
      intro kh Dm uc
      have o9:eJ P fn.ntmps 0 av f' h' { a' with defers:=[] } kh:=⟨R'.size,Nat.zero_le _,R'.tmp,Dm⟩
      obtain ⟨v',q1,q2⟩:=anc o9 h2 uI
      exact ⟨v',q1,v',av,rfl,q2,Dm,uc⟩
     rcases he with rfl | rfl
     ·exact key
     ·exact key
   ·cases hc
  ·cases hc
 ·cases hc
theorem ayI {F:FuncId} {args:List Value} {h:ae} {v:Value} (hi:sA P F args h fun u _=>u=v) {ρ:aK} {args':Array Value} {w:World} (hv:bG ρ args args'.toList) (H:a9 P ρ h w)
  (kV:∀i,¬cF h i):Calls P F args' w fun e w'=>(∃v' av,e=.returned v'∧ax av v v')∧RowKit.Below w.heap.size w w':=by
 obtain ⟨u,h',hc,rfl⟩:=hi
 refine (hc ρ args' w hv H).mono ?_
 rintro e w' ⟨v',av,rfl,h1,_,T⟩
 exact ⟨⟨v',av,rfl,h1⟩,⟨T.os,T.tape,T.output,T.ji,fun k hk=>T.iK k hk fun j s _ _ hm=>kV j hm⟩⟩
end
end
section
abbrev VK:=Value→ae→Prop
abbrev LQ:=List Value→ae→Prop
abbrev gm (a n:Nat):jA:=⟨some a,.p (.mv (.tmp n))⟩
abbrev gd (a n m:Nat):ko:=⟨some a,.p (.mv (.tmp n)),m⟩
abbrev ci (n:Int):Operand:=.const (.int .i64 n)
inductive OP (o:Option Value) (K:Value→Prop):Prop | mk:fS o K→OP o K
inductive OH (o:Option (Value×ae)) (K:Value→ae→Prop):Prop | mk:nY o K→OH o K
inductive aR (c:Value) (a b:Prop):Prop | mk:pS c a b→aR c a b
inductive cC (v:Value) (b:Bool) (A B:Prop):Prop | mk:kP v b A B→cC v b A B
inductive ay (Q:(Nat→Value)→ae→Prop) (ls:List Nat) (vs:List Value) (h:ae):Prop | mk:BH Q ls vs h→ay Q ls vs h
inductive cQ (init:List Value) (h:ae) (Q:(List Value→ae→Prop)→List Value→ae→Prop):Prop | mk:AE init h Q→cQ init h Q
inductive ak (P:Program) (F:FuncId) (args:List Value) (h:ae) (K:Value→ae→Prop):Prop | mk:sA P F args h K→ak P F args h K
inductive vE (P:Program) (x:Value) (args:List Value) (h:ae) (K:Value→ae→Prop):Prop | mk:uf P x args h K→vE P x args h K
inductive Bu (P:Program) (g:Value) (ls:List Nat) (vs:List Value) (c:Du) (h:ae) (K:ae→Prop):Prop | mk:uW P g ls vs c h K→Bu P g ls vs c h K
theorem Zh:Bu=uW:=funext fun _=>funext fun _=>funext fun _=>funext fun _=>funext fun _=>funext fun _=>funext fun _=>propext ⟨fun ⟨h⟩=>h,.mk⟩
theorem Bt:OP=fS:=funext fun _=>funext fun _=>propext ⟨fun ⟨h⟩=>h,.mk⟩
theorem Nv:OH=nY:=funext fun _=>funext fun _=>propext ⟨fun ⟨h⟩=>h,.mk⟩
theorem XS:aR=pS:=funext fun _=>funext fun _=>funext fun _=>propext ⟨fun ⟨h⟩=>h,.mk⟩
theorem ML:cC=kP:=funext fun _=>funext fun _=>funext fun _=>funext fun _=>propext ⟨fun ⟨h⟩=>h,.mk⟩
theorem Dk:ay=BH:=funext fun _=>funext fun _=>funext fun _=>funext fun _=>propext ⟨fun ⟨h⟩=>h,.mk⟩
theorem Zf:cQ=AE:=funext fun _=>funext fun _=>funext fun _=>propext ⟨fun ⟨h⟩=>h,.mk⟩
theorem vD:ak=sA:=funext fun _=>funext fun _=>funext fun _=>funext fun _=>funext fun _=>propext ⟨fun ⟨h⟩=>h,.mk⟩
theorem MK:vE=uf:=funext fun _=>funext fun _=>funext fun _=>funext fun _=>funext fun _=>propext ⟨fun ⟨h⟩=>h,.mk⟩
theorem aoC (Q:(Nat→Value)→ae→Prop) (ls:List Nat) (vs:List Value) (h:ae):ay Q ls vs h=Q (kF ls vs) h:=by
 rw [Dk]
 rfl
theorem az {Q:(Nat→Value)→ae→Prop} {ls:List Nat} {vs:List Value} {h:ae} {A:Prop} (e:Q (kF ls vs) h=A):ay Q ls vs h=A:=(aoC _ _ _ _).trans e
def FX (o:qC) (g:Operand→Value) (k:Value→Prop):Prop:=
 match o with
 | .mv x=>k (g x)
 | .Ke n=>k (.int .i64 n)
 | .fn f a b=>k (.func (.func f) (a.map g).toArray (b.map g).toArray)
 | o=>OP (jK o g) k
theorem Vs (o:qC) (g:Operand→Value) (k:Value→Prop):FX o g k=fS (jK o g) k:=by
 unfold FX
 split
 ·rfl
 ·rfl
 ·rfl
 ·rw [Bt]
def LR (P:Program) (o:iz) (f:Nat→Value) (h:ae) (K:Value→ae→Prop):Prop:=
 match o with
 | .p o=>FX o (ev f) fun v=>K v h
 | .l o=>OP (fR o (ev f) h) fun v=>K v h
 | .e o=>OH (gw o (ev f) h) K
 | .call g args=>ak P g (args.map (ev f)) h K
 | .lG x args=>vE P (ev f x) (args.map (ev f)) h K
theorem aFB (P:Program) (o:iz) (f:Nat→Value) (h:ae) (K:Value→ae→Prop):LR P o f h K=dm P o f h K:=by
 cases o <;> simp only [LR,dm,Vs,Bt,Nv,vD,MK]
def Er (P:Program) (l:List jA) (K:(Nat→Value)→ae→Prop):(Nat→Value)→ae→Prop:=
 List.rec (motive:=fun _=>(Nat→Value)→ae→Prop) (fun f h=>K f h) (fun o _ ih f h=>LR P o.op f h fun v h'=>ih (dO f o.dst v) h') l
theorem ad4 (P:Program) (l:List jA) (K:(Nat→Value)→ae→Prop):∀(f:Nat→Value) (h:ae),Er P l K f h=xK P l K f h:=by
 induction l with
 | nil=>intro f h;rfl
 | cons o os ih=>
  intro f h
  show LR P o.op f h (fun v h'=>Er P os K (dO f o.dst v) h')=_
  rw [aFB,xK]
  congr 1
  funext v h'
  exact ih _ _
def T2 (P:Program) (g:Option (Nat×Bool)) (l:List jA) (K:(Nat→Value)→ae→Prop) (f:Nat→Value) (h:ae):Prop:=
 match g with
 | none=>Er P l K f h
 | some (s,b)=>cC (f s) b (Er P l K f h) (K (C0 l f) h)
theorem aAK (P:Program) (g:Option (Nat×Bool)) (l:List jA) (K:(Nat→Value)→ae→Prop) (f:Nat→Value) (h:ae):T2 P g l K f h=tM P g l K f h:=by
 unfold T2 tM
 split <;> simp only [ad4,ML]
abbrev XO:=List (Nat×ae)→fh→Value→ae→Prop
def IP (P:Program) (io:iz) (pre j:Nat) (aN:List (Nat×ae)) (aI:fh) (f:Nat→Value) (h:ae) (next:XO):Prop:=
 match io with
 | .p po=>FX po (ev f) fun v=>next aN aI v h
 | .l lo=>OP (fR lo (ev f) h) fun v=>xz pre lo f v aN∧next aN (aI++[(j,lo,f,v)]) v h
 | .e (.fl a)=>OH (gw (.fl a) (ev f) h) fun v h'=>OP (eC h' v) fun u=>lR pre h' aI∧next (aN++[(j,h)]) (aI++[(j,.obj (.const v),f,u)]) v h'
 | .e eo=>OH (gw eo (ev f) h) fun v h'=>lR pre h' aI∧next (aN++[(j,h)]) aI v h'
 | .call g args=>ak P g (args.map (ev f)) h fun v h'=>lR pre h' aI∧next (aN++[(j,h)]) aI v h'
 | .lG x args=>vE P (ev f x) (args.map (ev f)) h fun v h'=>lR pre h' aI∧next (aN++[(j,h)]) aI v h'
theorem avz (P:Program) (io:iz) (pre j:Nat) (aN:List (Nat×ae)) (aI:fh) (f:Nat→Value) (h:ae) (next:XO):
  IP P io pre j aN aI f h next=lH P io pre j aN aI f h next:=by
 cases io with
 | e eo=>cases eo <;> simp only [IP,lH,Bt,Nv]
 | _=>simp only [IP,lH,Vs,Bt,vD,MK]
abbrev XN:=List (Nat×ae)→fh→(Nat→Value)→ae→Prop
def En (P:Program):List ko→Nat→List (Nat×ae)→fh→XN→(Nat→Value)→ae→Prop
 | [],_,aN,aI,K,f,h=>K aN aI f h
 | o::os,j,aN,aI,K,f,h=>IP P o.op o.pre j aN aI f h fun aN aI v h'=>En P os (j+1) aN aI K (dO f o.dst v) h'
theorem Ra (P:Program):∀(l:List ko) (j:Nat) (aN:List (Nat×ae)) (aI:fh) (K:XN) (f:Nat→Value) (h:ae),En P l j aN aI K f h=pj P l j aN aI K f h
 | [],_,_,_,_,_,_=>rfl
 | o::os,j,aN,aI,K,f,h=>by
  rw [En,pj,avz]
  congr 1
  funext aN aI v h'
  exact Ra P os _ _ _ _ _ _
def uw (P:Program):List (Option (Nat×Bool)×List ko)→Nat→List (Nat×ae)→fh→((Nat→Value)→ae→Prop)→(Nat→Value)→ae→Prop
 | [],_,_,_,K,f,h=>K f h
 | (none,l)::gs,j,aN,aI,K,f,h=>En P l j aN aI (fun aN aI f h=>uw P gs (j+l.length) aN aI K f h) f h
 | (some (s,b),l)::gs,j,aN,aI,K,f,h=>
  cC (f s) b (En P l j aN aI (fun aN aI f h=>uw P gs (j+l.length) aN aI K f h) f h)
   (vV l j aN aI (fun aN aI f h=>uw P gs (j+l.length) aN aI K f h) f h)
theorem Je (P:Program):∀(gs:List (Option (Nat×Bool)×List ko)) (j:Nat) (aN:List (Nat×ae)) (aI:fh) (K:(Nat→Value)→ae→Prop) (f:Nat→Value) (h:ae),
  uw P gs j aN aI K f h=oF P gs j aN aI K f h
 | [],_,_,_,_,_,_=>rfl
 | (none,l)::gs,j,aN,aI,K,f,h=>by
  have e:(fun aN aI f h=>uw P gs (j+l.length) aN aI K f h)=fun aN aI f h=>oF P gs (j+l.length) aN aI K f h:=by
   funext a b c d;exact Je P gs _ _ _ _ _ _
  rw [uw,oF,Ra,e]
 | (some (s,b),l)::gs,j,aN,aI,K,f,h=>by
  have e:(fun aN aI f h=>uw P gs (j+l.length) aN aI K f h)=fun aN aI f h=>oF P gs (j+l.length) aN aI K f h:=by
   funext a b c d;exact Je P gs _ _ _ _ _ _
  rw [uw,oF,Ra,e,ML]
noncomputable def aq (P:Program) (c:fx):ar→(Nat→Value)→ae→Prop:=
 fx.rec (motive:=fun _=>ar→(Nat→Value)→ae→Prop)
  (fun K f h=>K .normal f h)
  (fun l K f h=>uw P l 0 [] [] (K .normal) f h)
  (fun g l K f h=>T2 P g l (K .normal) f h)
  (fun _ _ ia ib K f h=>ia (aG (ib K) K) f h)
  (fun ls _ ic K f h=>ay (ic K) ls (ls.map f) h)
  (fun c _ _ ia ib K f h=>aR (ev f c) (ia K f h) (ib K f h))
  (fun id _ ic K f h=>ic (bO id K) f h)
  (fun ks ls _ ic K f h=>cQ (ls.map f) h fun L xs hx=>ay (ic (aG (fun f' aW=>ks.map f'=ks.map f∧L (ls.map f') aW) K)) (ks++ls) (ks.map f++xs) hx)
  (fun id K f h=>K (.exit id) f h)
  (fun K f h=>K .ret f h)
  (fun g ls c K f h=>Bu P (ev f g) ls (ls.map f) c h (K .normal f)) c
theorem ay4 (P:Program) (c:fx):aq P c=jv P c:=by
 induction c with
 | skip=>rfl
 | IM l=>funext K f h;exact Je P l 0 [] [] (K .normal) f h
 | ops g l=>funext K f h;exact aAK P g l (K .normal) f h
 | seq a b sB tD=>
  funext K f h
  show aq P a (aG (aq P b K) K) f h=jv P a (aG (jv P b K) K) f h
  rw [sB,tD]
 | cut ls c ih=>
  funext K f h
  show ay (aq P c K) ls (ls.map f) h=BH (jv P c K) ls (ls.map f) h
  rw [ih,Dk]
 | cond c a b sB tD=>
  funext K f h
  show aR (ev f c) (aq P a K f h) (aq P b K f h)=pS (ev f c) (jv P a K f h) (jv P b K f h)
  rw [sB,tD,XS]
 | block id c ih=>
  funext K f h
  show aq P c (bO id K) f h=jv P c (bO id K) f h
  rw [ih]
 | loop ks ls c ih=>
  funext K f h
  show cQ (ls.map f) h (fun L xs hx=>ay (aq P c (aG (fun f' aW=>ks.map f'=ks.map f∧L (ls.map f') aW) K)) (ks++ls) (ks.map f++xs) hx)=
   AE (ls.map f) h (fun L xs hx=>jv P c (aG (fun f' aW=>ks.map f'=ks.map f∧L (ls.map f') aW) K) (kF (ks++ls) (ks.map f++xs)) hx)
  rw [ih,Zf,Dk]
  rfl
 | exit id=>rfl
 | ret=>rfl
 | range g ls c=>
  funext K f h
  show Bu P (ev f g) ls (ls.map f) c h (K .normal f)=uW P (ev f g) ls (ls.map f) c h (K .normal f)
  rw [Zh]
def CR:List kN→(Nat→Value)→ae→(List Value→Prop)→Prop
 | [],_,_,k=>k []
 | .tmp t::rs,f,h,k=>CR rs f h fun vs=>k (f t::vs)
 | .cell agg n a::rs,f,h,k=>OP (af agg n h (f a)) fun v=>CR rs f h fun vs=>k (v::vs)
theorem VX:∀(rs:List kN) (f:Nat→Value) (h:ae) (k:List Value→Prop),CR rs f h k=wU rs f h k
 | [],_,_,_=>rfl
 | .tmp _::rs,f,h,k=>VX rs f h _
 | .cell agg n a::rs,f,h,k=>by
  rw [CR,wU,Bt]
  congr 1
  funext v
  exact VX rs f h _
def aT (rs:List kN) (K:Value→ae→Prop):ar
 | .normal,f,h=>CR rs f h fun vs=>K (pack vs) h
 | .ret,f,h=>CR rs f h fun vs=>K (pack vs) h
 | _,_,_=>False
theorem ZG (rs:List kN) (K:Value→ae→Prop):aT rs K=Ps rs K:=by
 funext e f h
 cases e <;> first | rfl | exact VX rs f h _
theorem bK {P:Program} {F:FuncId} {N:Nat} {ic:fx} {rs:List kN} {hs:Hints} {h:ae} (hc:bz P F hs=some (N,ic,rs)) {args:List Value} (ha:args.length≤N)
  {K:Value→ae→Prop} (hi:aq P ic (aT rs K) (bt args) h):ak P F args h K:=
 .mk (afG hc ha (by rw [←ay4,←ZG];exact hi))
end
section
section aGe
variable {A B : Prop} {K : Value → Prop} {K2 : Value → ae → Prop} {v : Value} {h : ae}
@[simp] theorem ah : OP (some v) K ↔ K v := ⟨fun ⟨h⟩ => h, fun h => .mk h⟩
@[simp] theorem aA : OH (some (v, h)) K2 ↔ K2 v h := ⟨fun ⟨h⟩ => h, fun h => .mk h⟩
theorem GX {o:Option (Value×ae)} (ho:o=some (v,h)) (hk:K2 v h):OH o K2:=by rw [ho];exact aA.2 hk
@[simp] theorem c8 : aR (.bool true) A B ↔ A := ⟨fun ⟨h⟩ => by simpa [pS] using h, fun h => .mk (by simpa [pS] using h)⟩
@[simp] theorem dF : aR (.bool false) A B ↔ B := ⟨fun ⟨h⟩ => by simpa [pS] using h, fun h => .mk (by simpa [pS] using h)⟩
theorem tY {b:Bool} (h1:b=true→A) (h2:b=false→B):aR (.bool b) A B:=by cases b <;> simp [h1,h2]
@[simp] theorem bR {p : Prop} [Decidable p] : aR (.bool (decide p)) A B ↔ (p → A) ∧ (¬ p → B) := by by_cases hp : p <;> simp [hp]
@[simp] theorem Gz {p : Prop} [Decidable p] : aR (.bool (!decide p)) A B ↔ (¬ p → A) ∧ (p → B) := by by_cases hp : p <;> simp [hp]
@[simp] theorem jm : cC (.bool true) true A B ↔ A := ⟨fun ⟨h⟩ => by simpa [kP] using h, fun h => .mk (by simpa [kP] using h)⟩
@[simp] theorem fw : cC (.bool true) false A B ↔ B := ⟨fun ⟨h⟩ => by simpa [kP] using h, fun h => .mk (by simpa [kP] using h)⟩
@[simp] theorem kL : cC (.bool false) true A B ↔ B := ⟨fun ⟨h⟩ => by simpa [kP] using h, fun h => .mk (by simpa [kP] using h)⟩
@[simp] theorem dR : cC (.bool false) false A B ↔ A := ⟨fun ⟨h⟩ => by simpa [kP] using h, fun h => .mk (by simpa [kP] using h)⟩
@[simp] theorem Bi {b : Bool} : cC undef b A B ↔ B := ⟨fun ⟨h⟩ => by simpa [kP, undef] using h, fun h => .mk (by simpa [kP, undef] using h)⟩
@[simp] theorem dZ (a b : Value) : bQ (.bool true) a b = some a := rfl
@[simp] theorem cK (a b : Value) : bQ (.bool false) a b = some b := rfl
theorem ak.mono {P:Program} {F:FuncId} {args:List Value} {K K':Value→ae→Prop} (hc:ak P F args h K) (hk:∀v h',K v h'→K' v h'):ak P F args h K':=by
 rw [vD] at hc⊢
 exact hc.mono hk
end aGe
abbrev I (n:Int):Value:=.int .i64 n
abbrev B (b:Bool):Value:=.bool b
abbrev cv (c:UInt8):Value:=.int .u8 (c.toNat:Int)
abbrev pt (i o:Nat):Value:=.pointer (some ⟨i,o,none⟩)
theorem wrap64 {n:Int} (h1: -9223372036854775808≤n) (h2:n<9223372036854775808):IntKind.wrap .i64 n=n:=by
 have e:IntKind.wrap .i64 n=if n%18446744073709551616≥9223372036854775808 then n%18446744073709551616-18446744073709551616 else n%18446744073709551616:=by
  simp [IntKind.wrap,IntKind.bits,IntKind.signed]
 rw [e]
 split <;> omega
theorem anO {n:Int} (h1:0≤n) (h2:n<256):IntKind.wrap .u8 n=n:=by
 have e:IntKind.wrap .u8 n=n%256:=by
  simp [IntKind.wrap,IntKind.bits,IntKind.signed]
 rw [e]
 omega
section ints
variable (k : IntKind) (a b : Int)
@[simp] theorem cA : ai .lss (.int k a) (.int k b) = some (.bool (decide (a < b))) := by simp [ai, hZ]
@[simp] theorem Bz : ai .leq (.int k a) (.int k b) = some (.bool (decide (a ≤ b))) := by simp [ai, hZ]
@[simp] theorem fG : ai .gtr (.int k a) (.int k b) = some (.bool (decide (b < a))) := by simp [ai, hZ]
@[simp] theorem nk : ai .geq (.int k a) (.int k b) = some (.bool (decide (b ≤ a))) := by simp [ai, hZ]
@[simp] theorem iT : ai .eql (.int k a) (.int k b) = some (.bool (decide (a = b))) := by simp [ai, hZ]
@[simp] theorem pO : ai .neq (.int k a) (.int k b) = some (.bool (!decide (a = b))) := by simp [ai, hZ]
@[simp] theorem cf : ai .add (.int k a) (.int k b) = some (.int k (k.wrap (a + b))) := by simp [ai, hZ]
@[simp] theorem gE : ai .sub (.int k a) (.int k b) = some (.int k (k.wrap (a - b))) := by simp [ai, hZ]
@[simp] theorem ue : ai .mul (.int k a) (.int k b) = some (.int k (k.wrap (a * b))) := by simp [ai, hZ]
@[simp] theorem oc (b : Bool) : gJ .not (.bool b) = some (.bool !b) := rfl
@[simp] theorem aHM : gJ .neg (.int k a) = some (.int k (k.wrap (0 - a))) := rfl
@[simp] theorem jY (k' : IntKind) : dA k' (.int k a) = some (.int k' (k'.wrap a)) := rfl
@[simp] theorem Ec (n x y : Bool) : uJ n (.bool x) (.bool y) = some (.bool (if n then !(x == y) else x == y)) := rfl
@[simp] theorem dX (i : Nat) (vs : Array Value) : cg i (.tuple vs) = vs[i]? := rfl
end ints
section strings
variable (a b : List UInt8)
@[simp] theorem ZM (l : List UInt8) : bytes ⟨l.toArray⟩ = l := arO l
@[simp] theorem mf : gI (S a) = some (I a.length) := by simp [gI, S]
@[simp] theorem Pq : ai .eql (S a) (S b) = some (.bool (decide (a = b))) := by simp [ai, yn, S]
@[simp] theorem ZE : ai .neq (S a) (S b) = some (.bool (!decide (a = b))) := by simp [ai, yn, S]
theorem yU (h:a.length+b.length≤maxLen):ai .add (S a) (S b)=some (S (a++b)):=by
 simp only [ai,yn,S,ZM,if_pos h]
theorem wD {i:Nat} (h:i<a.length) (k:IntKind):j7 (S a) (.int k (i:Int))=some (cv a[i]):=by simp [j7,S,h]
theorem Wj {n:Nat} (h:n≤a.length) (k:IntKind):lK (S a) none (some (.int k (n:Int)))=some (S (a.take n)):=by simp [lK,S,sw,tJ,h]
theorem CS {n:Nat} (h:n≤a.length) (k:IntKind):lK (S a) (some (.int k (n:Int))) none=some (S (a.drop n)):=by simp [lK,S,sw,tJ,h]
end strings
theorem az7 {σ:Type} {init:List Value} {h:ae} {Q:(List Value→ae→Prop)→List Value→ae→Prop} (enc:σ→List Value) (hp:σ→ae) (J:σ→Prop) (μ:σ→Nat) (s0:σ)
  (e0:enc s0=init) (eh:hp s0=h) (j0:J s0) (hr:∀s,J s→Q (fun ys hy=>∃s',enc s'=ys∧hp s'=hy∧J s'∧μ s'<μ s) (enc s) (hp s)):cQ init h Q:=by
 refine .mk ?_
 have least:∀ys hy,(∃s,enc s=ys∧hp s=hy∧J s)→∃m,(∃s,enc s=ys∧hp s=hy∧J s∧μ s=m)∧∀s,enc s=ys→hp s=hy→J s→m≤μ s:=by
  rintro ys hy ⟨s,h1,h2,h3⟩
  have key:∀n,(∃s,enc s=ys∧hp s=hy∧J s∧μ s=n)→∃m,(∃s,enc s=ys∧hp s=hy∧J s∧μ s=m)∧∀s,enc s=ys→hp s=hy→J s→m≤μ s:=by
   intro n
   induction n using Nat.strongRecOn with
   | _ n ih=>
    intro hn
    by_cases aD:∃s,enc s=ys∧hp s=hy∧J s∧μ s<n
    ·obtain ⟨s',a,b,c,d⟩:=aD
     exact ih (μ s') d ⟨s',a,b,c,rfl⟩
    ·exact ⟨n,hn,fun s' a b c=>le_of_not_lt fun d=>aD ⟨s',a,b,c,d⟩⟩
  exact key _ ⟨s,h1,h2,h3,rfl⟩
 classical
 refine ⟨fun ys hy=>∃s,enc s=ys∧hp s=hy∧J s,fun ys hy=>if hJ:∃s,enc s=ys∧hp s=hy∧J s then Classical.choose (least ys hy hJ) else 0,⟨s0,e0,eh,j0⟩,?_⟩
 rintro xs hx hJ
 have Ae:=choose_spec (least xs hx hJ)
 simp only [dif_pos hJ]
 generalize Classical.choose (least xs hx hJ)=m at Ae
 obtain ⟨⟨s,a,b,c,d⟩,_⟩:=Ae
 have:=hr s c
 rw [a,b] at this
 have he:(fun (ys:List Value) (hy:ae)=>(∃s,enc s=ys∧hp s=hy∧J s)∧(if hJ:∃s,enc s=ys∧hp s=hy∧J s then Classical.choose (least ys hy hJ) else 0)<m)=
   fun ys hy=>∃s',enc s'=ys∧hp s'=hy∧J s'∧μ s'<μ s:=by
  funext ys hy
  apply propext
  constructor
  ·rintro ⟨BY,aD⟩
   rw [dif_pos BY] at aD
   obtain ⟨⟨s',a',b',c',d'⟩,_⟩:=choose_spec (least ys hy BY)
   exact ⟨s',a',b',c',by rw [d',d];exact aD⟩
  ·rintro ⟨s',a',b',c',d'⟩
   refine ⟨⟨s',a',b',c'⟩,?_⟩
   rw [dif_pos ⟨s',a',b',c'⟩]
   have:=(choose_spec (least ys hy ⟨s',a',b',c'⟩)).2 s' a' b' c'
   omega
 rw [he]
 exact this
theorem dj {σ:Type} {init:List Value} {h:ae} {Q:(List Value→ae→Prop)→List Value→ae→Prop} (enc:σ→List Value) (hp:σ→ae) (J:σ→Prop) (μ:σ→Nat) (s0:σ)
  (e0:enc s0=init) (eh:hp s0=h) (j0:J s0) (hr:∀s,J s→∀L:List Value→ae→Prop,(∀s',J s'→μ s'<μ s→L (enc s') (hp s'))→Q L (enc s) (hp s)):cQ init h Q:=
 az7 enc hp J μ s0 e0 eh j0 fun s hs=>hr s hs _ fun s' h1 h2=>⟨s',rfl,rfl,h1,h2⟩
def EX (h h':ae):Prop:=h.length≤h'.length∧∀i,i<h.length→h'[i]?=h[i]?
theorem EX.refl (h:ae):EX h h:=⟨le_refl _,fun _ _=>rfl⟩
theorem EX.trans {a b c:ae} (h:EX a b) (k:EX b c):EX a c:=⟨Nat.le_trans h.1 k.1,fun i hi=>(k.2 i (Nat.lt_of_lt_of_le hi h.1)).trans (h.2 i hi)⟩
theorem EX.append (h g:ae):EX h (h++g):=⟨by simp,fun i hi=>getElem?_append_left hi⟩
theorem EX.push {a h:ae} (k:EX a h) (g:ae):EX a (h++g):=k.trans (.append h g)
theorem EX.set {a h:ae} (k:EX a h) {i:Nat} (hi:a.length≤i) (o:aj):EX a (h.set i o):=⟨by simpa using k.1,fun j hj=>by rw [getElem?_set_ne (by omega)];exact k.2 j hj⟩
theorem EX.get {a h:ae} (k:EX a h) {i:Nat} {o:aj} (hi:a[i]?=some o):h[i]?=some o:=by rw [k.2 i (bL hi).1];exact hi
theorem EX.cells {a h:ae} (k:EX a h) {i:Nat} {xs:List Value} (hi:aP a i=some xs):aP h i=some xs:=by
 unfold aP at hi⊢
 have aD:i<a.length:=by
  apply byContradiction
  intro hc
  rw [getElem?_eq_none (le_of_not_lt hc)] at hi
  simp at hi
 rw [k.2 i aD]
 exact hi
def fW:Value→Bool
 | .bool _ | .int .. | .string _ | .nilFunc | .nilIface=>true
 | .pointer none | .map none=>true
 | .slice none 0 0=>true
 | _=>false
theorem fW.rel {ρ av:aK} {v v':Value} (h:fW v=true) (hv:ax ρ v v'):ax av v v':=by
 unfold fW at h
 split at h
 ·cases hv;exact .bool _
 ·cases hv;exact .int _ _
 ·cases hv;exact .string _
 ·cases hv;exact .nilFunc
 ·cases hv;exact .nilIface
 ·cases hv;exact .uR
 ·cases hv;exact .uQ
 ·cases hv;exact .rl
 ·cases h
def pc (V:Nat→Value):Prop:=∀(ρ av:aK) (i j:Nat) (v':Value),av j=ρ i→ax ρ (V i) v'→ax av (V j) v'
theorem pc.fW {v:Value} (h:fW v=true):pc fun _=>v:=fun _ _ _ _ _ _ hv=>fW.rel h hv
theorem pc.pt (o:Nat):pc fun i=>pt i o:=by
 intro ρ av i j v' e hv
 cases hv with
 | ptr hr=>exact .ptr (by rw [e];exact hr)
theorem pc.sl (e:TypeId) (o n:Nat):pc fun i=>sl e i o n:=by
 intro ρ av i j v' he hv
 cases hv with
 | slice hr a b c d=>exact .slice (by rw [he];exact hr) a b c d
inductive yK:List (Nat→Value)→Prop
 | nil:yK []
 | cons {V:Nat→Value} {l:List (Nat→Value)}:pc V→yK l→yK (V::l)
theorem yK.rel {l:List (Nat→Value)} (h:yK l) {ρ av:aK} {i j:Nat} (e:av j=ρ i):∀{ys:List Value},bG ρ (l.map (· i)) ys→bG av (l.map (· j)) ys:=by
 induction h with
 | nil=>intro ys hv;cases hv;exact .nil
 | cons hV _ ih=>intro ys hv;cases hv with | cons a b=>exact .cons (hV _ _ _ _ _ e a) (ih b)
theorem pc.tuple {l:List (Nat→Value)} (h:yK l):pc fun i=>.tuple (l.map (· i)).toArray:=by
 intro ρ av i j v' e hv
 cases hv with
 | tuple hs hr=>
  rename_i fL
  have:=h.rel e (bG.tR hs hr)
  have:=ax.sJ this
  simpa using this
theorem pc.agg {l:List (Nat→Value)} (h:yK l) (hc:∀j,∀V∈l,gK (V j)=true):pc fun i=>.agg (l.map (· i)).toArray:=by
 intro ρ av i j v' e hv
 cases hv with
 | agg hs h1 hr=>
  rename_i fL
  have:=h.rel e (bG.tR hs hr)
  have:=ax.Bx this (by
   intro x hx
   simp only [mem_map] at hx
   obtain ⟨V,hV,rfl⟩:=hx
   exact hc j V hV)
  simpa using this
section gc
variable {P : Program} {F : FuncId} {args : List Value} {h : ae}
def wO:aj→Bool
 | .ro _ xs | .arr _ xs=>xs.all fW
 | .smap es=>es.all fun p=>fW p.2
 | .fm _ es=>es.all fun p=>fW p.2
 | .cU _ _ es=>es.all fun p=>fW p.2.2
 | _=>false
theorem wO.rel {ρ av:aK} {w:World} {r:RI} {o:aj} (hp:wO o=true) (h:lM ρ w r o):lM av w r o:=by
 have cells:∀{c:Array Value} {sh:Nat} {xs:List Value},xs.all fW=true→gv ρ c sh xs→gv av c sh xs:=by
  intro c sh xs hs hc j x hj
  obtain ⟨h1,y,hy,hr⟩:=hc j x hj
  rw [all_eq_true] at hs
  exact ⟨h1,y,hy,fW.rel (hs x (mem_of_getElem? hj)) hr⟩
 cases o with
 | ro e xs=>obtain ⟨h1,c,t,fr,h2,h3,h4⟩:=h;exact ⟨h1,c,t,fr,h2,h3,cells hp h4⟩
 | arr e xs=>obtain ⟨h1,h0,c,h2,h3,h4⟩:=h;exact ⟨h1,h0,c,h2,h3,cells hp h4⟩
 | smap es=>
  obtain ⟨aJ,clock,h1,h2,h3⟩:=h
  refine ⟨aJ,clock,h1,h2,fun j k v hj=>?_⟩
  obtain ⟨en,e1,e2,e3⟩:=h3 j k v hj
  simp only [wO,all_eq_true] at hp
  exact ⟨en,e1,e2,fW.rel (hp (k,v) (mem_of_getElem? hj)) e3⟩
 | fm kd es=>
  obtain ⟨aJ,clock,h1,h2,h3⟩:=h
  refine ⟨aJ,clock,h1,h2,fun j k v hj=>?_⟩
  obtain ⟨en,e1,e2,e3⟩:=h3 j k v hj
  simp only [wO,all_eq_true] at hp
  exact ⟨en,e1,e2,fW.rel (hp (k,v) (mem_of_getElem? hj)) e3⟩
 | cU g c es=>
  obtain ⟨h0,aJ,h1,h2,h3⟩:=h
  refine ⟨h0,aJ,h1,h2,fun j b k v hj=>?_⟩
  obtain ⟨e0,en,e1,e2,ze,e3⟩:=h3 j b k v hj
  simp only [wO,all_eq_true] at hp
  exact ⟨e0,en,e1,e2,ze,fW.rel (hp (b,k,v) (mem_of_getElem? hj)) e3⟩
 | iter m s n l=>cases hp
 | loop c ls vs=>cases hp
 | dead=>cases hp
theorem au5 {K:Value→ae→Prop} {v:Value} {h':ae} (hV:pc fun _=>v) (hc:xk P F args [] v h') (ha:args.all fW=true) (hk:K v h):ak P F args h K:=by
 rw [vD]
 refine ⟨v,h,?_,hk⟩
 intro ρ args' w hv H
 have JT:∀{xs ys:List Value},xs.all fW=true→bG ρ xs ys→bG (fun _=>none) xs ys:=by
  intro xs ys hs hr
  induction hr with
  | nil=>exact .nil
  | cons a _ ih=>simp only [List.all_cons,and_eq_true] at hs;exact .cons (fW.rel hs.1 a) (ih hs.2)
 have H0:a9 P (fun _=>none) [] w:=⟨fun i r hi=>(by cases hi),fun i j r s hi=>(by cases hi),fun i r hi=>(by cases hi)⟩
 refine (hc _ args' w (JT ha hv) H0).mono ?_
 rintro e w' ⟨v',av,rfl,kW,H',T⟩
 have ep:∀b,b<w.heap.size→w'.heap[b]?=w.heap[b]?:=fun b hb=>T.iK b hb fun j s hj=>(by cases hj)
 refine ⟨v',ρ,rfl,hV av ρ h'.length h.length v' (by rw [H.none,H'.none]) kW,⟨?_,H.inj,H.aY⟩,?_⟩
 ·intro k r hr
  obtain ⟨o,ho,nV⟩:=H.obj k r hr
  refine ⟨o,ho,?_⟩
  by_cases hd:o=.dead
  ·subst hd;trivial
  ·exact nV.mono (.refl _) (ep _ (CF H hr ⟨o,ho,hd⟩))
 ·exact {
   ext:=.refl _
   len:=le_refl _
   jQ:=fun k r hr=>H.lt hr
   kinds:=fun _ _ h=>h
   fresh:=fun k r h1 h2=>by rw [h1] at h2;cases h2
   ji:=T.ji
   iK:=fun b hb _=>ep b hb
   os:=T.os
   tape:=T.tape
   output:=T.output }
end gc
end
section
open Go.ChangeShapes Go.WideShapes Go.ChangeAt Go.RowKit
def qw (h:ae):Prop:=∀i,¬cF h i
section
variable {P : Program} {W : World} {ρ : aK} {h : ae}
theorem a9.start (P:Program) (W:World):a9 P (fun _=>Option.none) [] W:=⟨fun i r hi=>(by cases hi),fun i j r s hi=>(by cases hi),fun i r hi=>(by cases hi)⟩
theorem qw.start:qw []:=fun i hm=>by unfold cF at hm;simp at hm
theorem a9.Zo (H:a9 P ρ h W) (hr:qw h) {r:RI} (he:r.aY=P.cellsOf r.elem) {o:aj} (dh:o=.dead∨∃e xs,o=.ro e xs) (ho:lM (ρ.add h.length r) W r o):
  a9 P (ρ.add h.length r) (h++[o]) W∧qw (h++[o])∧ρ.le (ρ.add h.length r):=by
 have kV:qw (h++[o]):=by
  intro i hm
  unfold cF at hm
  by_cases hi:i<h.length
  ·rw [getElem?_append_left hi] at hm
   exact hr i hm
  ·by_cases he:i=h.length
   ·subst he
    have e:(h++[o])[h.length]?=some o:=by simp
    rw [e] at hm
    rcases dh with rfl | ⟨_,_,rfl⟩ <;> rcases hm with ⟨_,_,h1⟩ | ⟨_,h1⟩ | ⟨_,_,_,h1⟩ | ⟨_,_,h1⟩ | ⟨_,_,_,h1⟩ | ⟨_,_,_,_,h1⟩ <;> cases h1
   ·rw [getElem?_eq_none (by simp;omega)] at hm
    rcases hm with ⟨_,_,h1⟩ | ⟨_,h1⟩ | ⟨_,_,_,h1⟩ | ⟨_,_,h1⟩ | ⟨_,_,_,h1⟩ | ⟨_,_,_,_,h1⟩ <;> cases h1
 refine ⟨⟨?_,fun i j r s _ _ _ hm=>absurd hm (kV i),?_⟩,kV,aK.wJ H.none⟩
 ·intro i s hi
  unfold aK.add at hi
  split at hi
  ·rename_i e
   subst e
   cases hi
   exact ⟨o,by simp,ho⟩
  ·obtain ⟨o',h1,h2⟩:=H.obj i s hi
   exact ⟨o',by rw [getElem?_append_left (H.lt hi)];exact h1,h2.mono (aK.wJ H.none) rfl⟩
 ·intro i s hi
  unfold aK.add at hi
  split at hi
  ·cases hi;exact he
  ·exact H.aY i s hi
theorem fW.self {v:Value} (hs:fW v=true) (ρ:aK):ax ρ v v:=by
 unfold fW at hs
 split at hs
 ·exact .bool _
 ·exact .int _ _
 ·exact .string _
 ·exact .nilFunc
 ·exact .nilIface
 ·exact .uR
 ·exact .uQ
 ·exact .rl
 ·cases hs
theorem fW.cell {v:Value} (hs:fW v=true):gK v=true:=by
 unfold fW at hs
 split at hs <;> first | rfl | cases hs
variable {H : Type} {enc : TypeId × Value → H}
theorem addr_eq {a:Addr} (hs:a.spot=none) (n:Nat):a.add n=⟨a.block,a.off+n,none⟩:=by
 obtain ⟨b,o,s⟩:=a
 simp only at hs
 subst hs
 unfold Addr.add
 split
 ·rename_i h;subst h;rfl
 ·rfl
theorem awn {t e:TypeId} (ht:P.underlying t=some (.slice e)) (hY:P.cellsOf e≠0)
  (flat:∀n cs y,DataW.trod enc P W 0 (fun _=>true) true n e cs=some y→cs.length=P.cellsOf e∧∀x∈cs,fW x=true)
  {fuel:Nat} {v:Value} {x:DataW H×List MemPlace} (hd:DataW.trod enc P W 0 (fun _=>true) true fuel t [v]=some x) (aE:∀(a:Addr) (len cap:Nat),v=.slice (some a) len cap→a.spot=none) (HR:a9 P ρ h W) (kV:qw h):
  ∃(av:aK) (g:ae) (v':Value) (n:Nat) (xs:List Value),ρ.le av∧a9 P av (h++g) W∧qw (h++g)∧ax av v' v∧gK v'=true∧
   ((v'=.slice none 0 0∧n=0)∨∃i,v'=sl e i 0 n∧(n=0∨aP (h++g) i=some xs))∧xs.length=n*P.cellsOf e∧(∀y∈xs,fW y=true)∧
   ∀i,i<n→∃m y,DataW.trod enc P W 0 (fun _=>true) true m e ((xs.drop (i*P.cellsOf e)).take (P.cellsOf e))=some y:=by
 rcases DataW.trod_slice ht hd with ⟨h1,_⟩ | ⟨a,len,cap,awl,rest,n,_,h1,_,hb,hl,hm,hlen,zK,Ad,_⟩
 ·obtain rfl:v=.slice none 0 0:=by simpa using h1
  exact ⟨ρ,[],.slice none 0 0,0,[],.refl _,by simpa using HR,by simpa using kV,.rl,rfl,.inl ⟨rfl,rfl⟩,by simp,by simp,fun i hi=>by omega⟩
 ·obtain rfl:v=.slice (some a) len cap:=by simpa using h1
  have Cn:a.spot=none:=aE a len cap rfl
  obtain ⟨So,hr⟩:=Ad rfl
  -- every aGP cells lie there
  have each:∀i,i<cap→∃cs y,W.cells? 0 (a.add (i*P.cellsOf e)) (P.cellsOf e)=some cs∧DataW.trod enc P W 0 (fun _=>true) true n e cs=some y:=by
   intro i hi
   have kR:∃y,(W.cells? 0 (a.add (i*P.cellsOf e)) (P.cellsOf e)).bind (DataW.trod enc P W 0 (fun _=>true) true n e)=some y:=by
    by_cases bC:i<len
    ·rw [zK i bC,getElem?_eq_getElem (by omega)]
     exact ⟨_,rfl⟩
    ·have:=hr (i-len) (by omega)
     rw [show len+(i-len)=i by omega] at this
     rw [this,getElem?_eq_getElem (by omega)]
     exact ⟨_,rfl⟩
   obtain ⟨y,hy⟩:=kR
   rw [Option.bind_eq_some_iff] at hy
   obtain ⟨cs,h1,h2⟩:=hy
   exact ⟨cs,y,h1,h2⟩
  by_cases vZ:cap=0
  ·subst vZ
   obtain rfl:len=0:=by omega
   obtain ⟨H',Sq,hle⟩:=HR.Zo kV (r:=⟨a.block,a.off,e,P.cellsOf e,a.off⟩) rfl (.inl rfl) trivial
   refine ⟨_,[.dead],sl e h.length 0 0,0,[],hle,H',Sq,?_,rfl,.inr ⟨_,rfl,.inl rfl⟩,by simp,by simp,fun i hi=>by omega⟩
   obtain ⟨ab,ao,vJ⟩:=a
   simp only at Cn
   subst Cn
   exact ax.slice (ρ:=ρ.add h.length ⟨ab,ao,e,P.cellsOf e,ao⟩) (i:=h.length) (o:=0) (n:=0) (o':=ao) (c':=0) (r:=⟨ab,ao,e,P.cellsOf e,ao⟩) (by simp [aK.add]) (.inl rfl) (le_refl _) (by unfold maxLen;omega) (by simp)
  ·have B8:0<P.cellsOf e:=by omega
   -- gN block
   have axf:∃c tt fr,W.heap[a.block]?=some (.cells c tt fr):=by
    obtain ⟨cs,y,h1,h2⟩:=each 0 (by omega)
    obtain ⟨_,g2,g3⟩:=World.cells?_some h1
    have:=g3 0 B8
    rw [Nat.zero_mul,addr_eq Cn 0,addr_eq rfl 0,getElem?_eq_getElem (by omega)] at this
    unfold World.cell? at this
    split at this
    ·rename_i c tt fr hh;exact ⟨c,tt,fr,hh⟩
    ·cases this
   obtain ⟨c,tt,fr,tf⟩:=axf
   have get:∀i cs,W.cells? 0 (a.add (i*P.cellsOf e)) (P.cellsOf e)=some cs→∀j,j<P.cellsOf e→c[a.off+(i*P.cellsOf e+j)]?=cs[j]?:=by
    intro i cs h1 j hj
    obtain ⟨_,g2,g3⟩:=World.cells?_some h1
    have:=g3 j hj
    rw [addr_eq Cn,addr_eq rfl] at this
    simp only [World.cell?,tf] at this
    simpa [Nat.add_assoc] using this
   have here:∀j,j<cap*P.cellsOf e→∃y,c[a.off+j]?=some y∧fW y=true:=by
    intro j hj
    have hi:j / P.cellsOf e<cap:=(Nat.div_lt_iff_lt_mul B8).2 hj
    obtain ⟨cs,y,h1,h2⟩:=each _ hi
    obtain ⟨f1,f2⟩:=flat n cs y h2
    have pA:j%P.cellsOf e<P.cellsOf e:=Nat.mod_lt _ B8
    have:=get _ cs h1 (j%P.cellsOf e) pA
    rw [show j / P.cellsOf e*P.cellsOf e+j%P.cellsOf e=j by rw [Nat.mul_comm];exact Nat.div_add_mod j _] at this
    rw [this,getElem?_eq_getElem (by omega)]
    exact ⟨_,rfl,f2 _ (List.getElem_mem _)⟩
   let xs:=(List.range (len*P.cellsOf e)).map fun j=>c.getD (a.off+j) Go.undef
   have iG:xs.length=len*P.cellsOf e:=by simp [xs]
   have hlc:len*P.cellsOf e≤cap*P.cellsOf e:=Nat.mul_le_mul_right _ hl
   have SI:∀j,j<len*P.cellsOf e→xs[j]?=c[a.off+j]?:=by
    intro j hj
    obtain ⟨y,h1,_⟩:=here j (by omega)
    simp [xs,hj,h1]
   have qk:∀y∈xs,fW y=true:=by
    intro y hy
    obtain ⟨j,hj⟩:=List.getElem?_of_mem hy
    have aD:j<len*P.cellsOf e:=by have:=(bL hj).1;omega
    obtain ⟨z,h1,h2⟩:=here j (by omega)
    rw [SI j aD,h1] at hj
    cases hj
    exact h2
   have ayp:a.off+cap*P.cellsOf e≤c.size:=by
    have aHd:0<cap*P.cellsOf e:=Nat.mul_pos (by omega) B8
    obtain ⟨y,h1,_⟩:=here (cap*P.cellsOf e-1) (by omega)
    have:=(Array.getElem?_eq_some_iff.1 h1).1
    omega
   obtain ⟨H',Sq,hle⟩:=HR.Zo kV (r:=⟨a.block,a.off,e,P.cellsOf e,c.size⟩) rfl (.inr ⟨e,xs,rfl⟩) ⟨rfl,c,tt,fr,tf,rfl,fun j y hj=>by
    have aD:j<len*P.cellsOf e:=by have:=(bL hj).1;omega
    rw [SI j aD] at hj
    obtain ⟨z,h1,h2⟩:=here j (by omega)
    rw [h1] at hj
    cases hj
    exact ⟨fW.cell h2,_,h1,fW.self h2 _⟩⟩
   refine ⟨_,[.ro e xs],sl e h.length 0 len,len,xs,hle,H',Sq,?_,rfl,.inr ⟨_,rfl,.inr (by simp [aP])⟩,iG,qk,?_⟩
   ·obtain ⟨ab,ao,vJ⟩:=a
    simp only at Cn
    subst Cn
    exact ax.slice (ρ:=ρ.add h.length ⟨ab,ao,e,P.cellsOf e,c.size⟩) (i:=h.length) (o:=0) (n:=len) (o':=ao) (c':=cap) (r:=⟨ab,ao,e,P.cellsOf e,c.size⟩) (by simp [aK.add]) (.inl rfl) hl hm ayp
   ·intro i hi
    obtain ⟨cs,y,h1,h2⟩:=each i (by omega)
    refine ⟨n,y,?_⟩
    have gn:=(flat n cs y h2).1
    have R5:(i+1)*P.cellsOf e≤len*P.cellsOf e:=Nat.mul_le_mul_right _ hi
    rw [Nat.add_mul,Nat.one_mul] at R5
    have:(xs.drop (i*P.cellsOf e)).take (P.cellsOf e)=cs:=by
     apply List.ext_getElem?
     intro j
     rw [List.getElem?_take]
     by_cases hj:j<P.cellsOf e
     ·rw [if_pos hj,List.getElem?_drop,SI _ (by omega),get i cs h1 j hj]
     ·rw [if_neg hj,getElem?_eq_none (by omega)]
    rw [this]
    exact h2
theorem aFX {e:TypeId} {k:IntKind} (he:P.underlying e=some (.int k)) (hc:P.cellsOf e=1):∀n cs y,DataW.trod enc P W 0 (fun _=>true) true n e cs=some y→cs.length=P.cellsOf e∧∀x∈cs,fW x=true:=by
 intro n cs y h
 obtain ⟨m,rfl,_,_⟩:=DataW.trod_int he h
 exact ⟨by rw [hc];rfl,by simp [fW]⟩
theorem anC (hl:laidOutB P=true) {W':World} (hb:Below W.heap.size W W'):∀{ts:List TypeId} {vs:List Value} {ds:List (DataW H)} {p:List MemPlace},(∀t∈ts,P.readableRec t=true∧t<P.types.size)→
  DataW.TrodAll enc P W 0 (fun _=>true) true ts vs ds p→(∀x∈p,x.block<W.heap.size)→DataW.TrodAll enc P W' 0 (fun b=>decide (b<W.heap.size)) true ts vs ds p
 | [],vs,ds,p,_,h,_=>by
  obtain ⟨rfl,rfl,rfl⟩:=trodAll_nil h
  exact trodAll_mk0
 | t::ts,vs,ds,p,hr,h,aD=>by
  obtain ⟨v,jS,d,ds',a,b,rfl,rfl,rfl,h1,h2⟩:=trodAll_cons h
  exact trodAll_cons_mk (Below.trod hl (hr t (by simp)).1 (hr t (by simp)).2 h1 hb fun x hx=>aD x (by simp [hx]))
   (anC hl hb (fun t ht=>hr t (by simp [ht])) h2 fun x hx=>aD x (by simp [hx]))
theorem aAZ (hl:laidOutB P=true) {f:Func} {s:ChangeSpec} {t4:TypeId} {W':World} {args:Array Value} {ds gs:List (DataW H)} {before:List MemPlace} (hW:DataW.Whole enc P f.params.toList s.vars false W args.toList ds gs before)
  (hv:s.vars=[]) (ht4:P.underlying t4=some .bool) (hr:f.resultTypes=#[t4]) (hfn:∀Rk,Rk=[]→s.fn H (ds++Rk)={ results:=[.lit (.bool true)],args:=ds })
  (ayd:∀t∈f.params.toList,P.readableRec t=true∧t<P.types.size) (hb:Below W.heap.size W W'):s.post enc P f false true false false W args (.bool true) W':=by
 have Jm:=hW
 obtain ⟨p,q,hA,hV,rfl,_,_⟩:=hW
 rw [hv] at hV
 obtain ⟨rfl,rfl⟩:=trodVars_none hV
 have aD:∀x∈p,x.block<W.heap.size:=fun x hx=>Jm.lt x (by simp [hx])
 have e:=hfn [] rfl
 refine ⟨ds,[],p++[],[],p,[],Jm,?_,?_,?_,hb.frame _,fun h=>by cases h⟩
 ·rw [e,hr]
  exact trodAll_mk1 (shut_bool ht4 true)
 ·rw [e]
  exact anC hl hb ayd hA aD
 ·rw [e,hv]
  rfl
end
end
section
theorem AX (k:IntKind) (a b:Nat) (hb:b≠0):ai .rem (.int k (a:Int)) (.int k (b:Int))=some (.int k ((a%b:Nat):Int)):=by
 have h:¬((b:Int)=0):=by omega
 simp only [ai,hZ,if_true,if_neg h]
 congr 2
structure NS (h:ae) (v:Value) (k:IntKind) (ns:List Int):Prop where
 len:bj v=some (I ns.length)
 get:∀i (hi:i<ns.length),∃b o,bf 1 v (I i)=some (pt b o)∧af false 1 h (pt b o)=some (.int k ns[i])
 le:ns.length≤maxLen
theorem az5 {h h':ae} (k:EX h h') {agg:Bool} {n:Nat} {a v:Value} (hl:af agg n h a=some v):af agg n h' a=some v:=by
 unfold af at hl⊢
 split at hl
 ·rename_i i o
  cases hc:aP h i with
  | none=>rw [hc] at hl;cases hl
  | some xs=>rw [hc] at hl;rw [k.cells hc];exact hl
 ·cases hl
theorem NS.mono {h h':ae} {v:Value} {k:IntKind} {ns:List Int} (e:EX h h') (p:NS h v k ns):NS h' v k ns:=
 ⟨p.len,fun j hj=>let ⟨i,o,a,b⟩:=p.get j hj;⟨i,o,a,az5 e b⟩,p.le⟩
theorem NS.nil (h:ae) (k:IntKind):NS h (.slice none 0 0) k []:=⟨rfl,fun i hi=>by simp at hi,by simp⟩
theorem NS.sl {h:ae} {e:TypeId} {i:Nat} {k:IntKind} {ns:List Int} (hc:ns=[]∨aP h i=some (ns.map (Value.int k))) (hl:ns.length≤maxLen):NS h (sl e i 0 ns.length) k ns:=by
 refine ⟨rfl,fun j hj=>⟨i,j,?_,?_⟩,hl⟩
 ·have:(0:Int)≤(j:Int)∧(j:Int)<(ns.length:Int):=by omega
  simp [Go.Sim.sl,bf,this]
 ·have hc:=hc.resolve_left (by rintro rfl;simp at hj)
  simp [af,hc,b9,hj]
section
open Go.ChangeShapes
variable {P : Program} {W : World} {ρ : aK} {h : ae} {H : Type} {enc : TypeId × Value → H}
theorem afV {e:TypeId} {k:IntKind} (he:P.underlying e=some (.int k)):∀{n:Nat} {xs:List Value},xs.length=n*1→(∀i,i<n→∃m y,DataW.trod enc P W 0 (fun _=>true) true m e ((xs.drop (i*1)).take 1)=some y)→
  ∃ns:List Int,ns.length=n∧xs=ns.map (Value.int k)∧∀x∈ns,(Lit.int k x).wf=true
 | 0,xs,hl,_=>⟨[],rfl,by simpa using hl,by simp⟩
 | n+1,xs,hl,hp=>by
  match xs,hl with
  | x::xs,hl=>
   obtain ⟨m,y,hy⟩:=hp 0 (by omega)
   simp at hy
   obtain ⟨z,hz,_,hw⟩:=DataW.trod_int he hy
   simp at hz
   subst hz
   obtain ⟨ns,h1,h2,h3⟩:=afV he (n:=n) (xs:=xs) (by simp at hl;omega) fun i hi=>by
    have:=hp (i+1) (by omega)
    rw [show (i+1)*1=i*1+1 by omega] at this
    simpa using this
   exact ⟨z::ns,by simp [h1],by simp [h2],by intro a ha;rcases mem_cons.1 ha with rfl | ha;exact hw;exact h3 a ha⟩
end
end
section
def CV (P:Program) (o:iz) (f:Nat→Value) (h:ae) (K:Value→ae→Prop):Prop:=
 match o with
 | .e (.next it)=>∃l,AL h (ev f it)=some l∧∀p∈l,K p.1 p.2
 | o=>dm P o f h K
def BV (P:Program):List jA→((Nat→Value)→ae→Prop)→(Nat→Value)→ae→Prop
 | [],K,f,h=>K f h
 | o::os,K,f,h=>CV P o.op f h fun v h'=>BV P os K (dO f o.dst v) h'
def Kz (P:Program) (g:Option (Nat×Bool)) (l:List jA) (K:(Nat→Value)→ae→Prop) (f:Nat→Value) (h:ae):Prop:=
 match g with
 | none=>BV P l K f h
 | some (s,b)=>tM P (some (s,b)) l K f h
noncomputable def me (P:Program) (c:fx):ar→(Nat→Value)→ae→Prop:=
 fx.rec (motive:=fun _=>ar→(Nat→Value)→ae→Prop)
  (fun K f h=>K .normal f h)
  (fun l K f h=>oF P l 0 [] [] (K .normal) f h)
  (fun g l K f h=>Kz P g l (K .normal) f h)
  (fun _ _ ia ib K f h=>ia (aG (ib K) K) f h)
  (fun ls _ ic K f h=>BH (ic K) ls (ls.map f) h)
  (fun c _ _ ia ib K f h=>pS (ev f c) (ia K f h) (ib K f h))
  (fun id _ ic K f h=>ic (bO id K) f h)
  (fun ks ls _ ic K f h=>AE (ls.map f) h fun L xs hx=>ic (aG (fun f' aW=>ks.map f'=ks.map f∧L (ls.map f') aW) K) (kF (ks++ls) (ks.map f++xs)) hx)
  (fun id K f h=>K (.exit id) f h)
  (fun K f h=>K .ret f h)
  (fun g ls c K f h=>uW P (ev f g) ls (ls.map f) c h (K .normal f)) c
section
variable {P : Program} {w : World} {ρ : aK} {h : ae}
theorem aAr (H:a9 P ρ h w) {it E8:Value} {l:List (Value×ae)} (hn:AL h it=some l) (hv:ax ρ it E8) (ty:TypeId):
  ∃p∈l,∃v' w',(Instr.next E8 false ty).run P w=.ok v' w'∧ax ρ p.1 v'∧a9 P ρ p.2 w'∧Tr ρ h w ρ p.2 w':=by
 unfold AL at hn
 split at hn
 ·rename_i j
  split at hn
  ·rename_i i kG seen last ti
   split at hn
   ·rename_i g c es iX
    split at hn
    ·cases hn
    rename_i qG
    simp only [Option.some.injEq] at hn
    cases hv with
    | ptr hr=>
     rename_i r
     obtain ⟨o,ho,nV⟩:=H.obj j r hr
     rw [ti] at ho
     cases ho
     obtain ⟨yd,rm,JQ,hb⟩:=nV
     obtain ⟨aJ,hm,E⟩:=H.BL JQ iX
     rw [yd]
     -- gN entries,one by one
     have axR:aJ.toList.map (fun e=>e.born)=es.map fun e=>e.1:=by
      apply List.ext_getElem?
      intro q
      simp only [List.getElem?_map]
      by_cases hq:q<es.length
      ·have he:=getElem?_eq_getElem hq
       generalize es[q]=x at he
       obtain ⟨b,k,v⟩:=x
       obtain ⟨_,en,g2,g3,g4,g5⟩:=E.get q b k v he
       rw [he,getElem?_toList,g2]
       simp [g4]
      ·have h1:aJ.toList[q]?=none:=getElem?_eq_none (by rw [Array.length_toList,E.size];omega)
       rw [h1,getElem?_eq_none (by omega)];rfl
     have hz:∀en∈aJ.toList,∃e∈es,e.1=en.born∧e.2.1=en.key∧ax ρ e.2.2 en.val:=by
      intro en B6
      obtain ⟨q,hq,e'⟩:=List.mem_iff_getElem.1 B6
      have:aJ[q]?=some en:=by rw [←getElem?_toList,getElem?_eq_getElem hq,e']
      obtain ⟨v,q1,_,q3⟩:=E.inv this
      exact ⟨_,mem_of_getElem? q1,rfl,rfl,q3⟩
     have su:∀e∈es,∃en∈aJ.toList,e.1=en.born:=by
      intro e he
      have:e.1∈es.map fun e=>e.1:=mem_map.2 ⟨e,he,rfl⟩
      rw [←axR] at this
      obtain ⟨en,h1,h2⟩:=mem_map.1 this
      exact ⟨en,h1,h2.symm⟩
     -- vf gN aHk aHN
     let left:=aJ.filter fun e=> !(seen.toArray.contains e.born)
     let old:=left.filter fun e=>decide (e.born<kG)
     let new:=left.filter fun e=>decide (e.born≥kG)
     let pQ:Array (Option MapEntry):=(if old.isEmpty then #[none] else #[])++(old++new).map some
     have mN:(!seen.toArray.isEmpty&& !aJ.isEmpty&&aJ.all fun e=>decide (e.born≥last))=false:=by
      rw [Bool.eq_false_iff]
      intro hx
      apply qG
      simp only [and_eq_true] at hx⊢
      obtain ⟨⟨x1,x2⟩,x3⟩:=hx
      refine ⟨⟨by simpa using x1,?_⟩,?_⟩
      ·have:aJ.size≠0:=by simpa [Array.isEmpty] using x2
       rw [E.size] at this
       simpa [List.isEmpty_iff] using this
      ·rw [all_eq_true]
       intro e he
       obtain ⟨en,h1,h2⟩:=su e he
       rw [Array.all_eq_true'] at x3
       have:=x3 en (by simpa using h1)
       rw [h2]
       exact this
     have hY:0<pQ.size:=by
      simp only [pQ]
      by_cases ho:old.isEmpty=true
      ·rw [if_pos ho];simp;omega
      ·rw [if_neg ho]
       have:old.size≠0:=by simpa [Array.isEmpty] using ho
       simp;omega
     have bX:(getObj r.bw).run P w=.ok (.mapIter (some rm.bw) kG seen.toArray last) w:=by simp [getObj,Sem.run,hb]
     have RE:(getObj rm.bw).run P w=.ok (.map aJ c) w:=by simp [getObj,Sem.run,hm]
     obtain ⟨q,w1,hq,Ew,Ai,hT1⟩:∃q w1,q<pQ.size∧(choose (.mapNext pQ.size)).run P w=.ok q w1∧(w1.heap=w.heap∧a9 P ρ h w1)∧Tr ρ h w ρ h w1:=by
      by_cases hfo:(Question.mapNext pQ.size).forced=true
      ·exact ⟨0,w,hY,by simp [choose,Sem.run,hfo],⟨rfl,H⟩,Tr.refl H⟩
      ·exact ⟨(w.tape w.drawn (.mapNext pQ.size))%pQ.size,{ w with drawn:=w.drawn+1 },Nat.mod_lt _ hY,by simp [choose,Sem.run,hfo,Question.cut],⟨rfl,H.drew _⟩,Tr.drew H _⟩
     have lI:(es.filter fun e=> !seen.contains e.1).filter (fun e=>decide (e.1<kG))=[]↔old.isEmpty=true:=by
      constructor
      ·intro h0
       simp only [old,left]
       rw [Array.isEmpty_iff_size_eq_zero]
       apply byContradiction
       intro bp
       obtain ⟨en,B6⟩:∃en,en∈(Array.filter (fun e=>decide (e.born<kG)) (Array.filter (fun e=> !(seen.toArray.contains e.born)) aJ)):=⟨_,Array.getElem_mem (i:=0) (by omega)⟩
       rw [Array.mem_filter,Array.mem_filter] at B6
       obtain ⟨⟨e1,e2⟩,e3⟩:=B6
       obtain ⟨e,he,g1,_,_⟩:=hz en (by simpa using e1)
       have:e∈(es.filter fun e=> !seen.contains e.1).filter (fun e=>decide (e.1<kG)):=by
        rw [mem_filter,mem_filter,g1]
        exact ⟨⟨he,by simpa using e2⟩,e3⟩
       rw [h0] at this
       cases this
      ·intro h0
       rw [Array.isEmpty_iff_size_eq_zero] at h0
       rw [List.filter_eq_nil_iff]
       intro e he aD
       rw [mem_filter] at he
       obtain ⟨en,h1,h2⟩:=su e he.1
       have:en∈old:=by
        simp only [old,left]
        rw [Array.mem_filter,Array.mem_filter,←h2]
        exact ⟨⟨by simpa using h1,by simpa using he.2⟩,aD⟩
       rw [Array.eq_empty_of_size_eq_zero h0] at this
       simp at this
     have Jo:w1.heap[r.bw]?=some (.mapIter (some rm.bw) kG seen.toArray last):=by rw [Ai.1];exact hb
     obtain ⟨cq,Jr⟩:∃cq,pQ[q]?=some cq:=⟨_,Array.getElem?_eq_getElem hq⟩
     have gH:∀{v' w'},(match pQ[q]? with
       | some (some e)=>(do setObj r.bw (.mapIter (some rm.bw) kG (seen.toArray.push e.born) c);pure (.tuple #[.bool true,e.key,e.val]):Sem Value)
       | some none=>pure (.tuple #[.bool false])
       | none=>stuck "Next: no such candidate").run P w1=.ok v' w'→(Instr.next (.pointer (some ⟨r.bw,0+0,none⟩)) false ty).run P w=.ok v' w':=by
      intro v' w' hx
      unfold Instr.next
      simp only [add_zero,Sem.run_bind,bX,Result.andThen_ok,RE,mN,Bool.false_eq_true,if_false]
      show ((choose (.mapNext pQ.size)).run P w).andThen _=_
      rw [Ew]
      exact hx
     cases cq with
     | none=>
      -- it is KD
      have ho:old.isEmpty=true:=by
       apply byContradiction
       intro ho
       have:(none:Option MapEntry)∈pQ:=Array.mem_of_getElem? Jr
       simp only [pQ,if_neg ho] at this
       simp at this
      refine ⟨(.tuple #[.bool false],h),?_,.tuple #[.bool false],w1,gH (by rw [Jr];rfl),ax.sJ (.cons (.bool _) .nil),Ai.2,hT1⟩
      rw [←hn]
      have:=lI.2 ho
      refine List.mem_append_left _ ?_
      rw [this];simp
     | some en=>
      have B6:en∈old++new:=by
       have:(some en:Option MapEntry)∈pQ:=Array.mem_of_getElem? Jr
       simp only [pQ] at this
       rcases Array.mem_append.1 this with h1 | h1
       ·split at h1 <;> simp at h1
       ·obtain ⟨e2,h2,h3⟩:=Array.mem_map.1 h1
        cases h3
        exact h2
      have Ju:en∈aJ.toList∧seen.contains en.born=false:=by
       rcases Array.mem_append.1 B6 with h1 | h1
       ·simp only [old,left] at h1
        rw [Array.mem_filter,Array.mem_filter] at h1
        exact ⟨by simpa using h1.1.1,by simpa using h1.1.2⟩
       ·simp only [new,left] at h1
        rw [Array.mem_filter,Array.mem_filter] at h1
        exact ⟨by simpa using h1.1.1,by simpa using h1.1.2⟩
      obtain ⟨e,he,g1,g2,g3⟩:=hz en Ju.1
      have aD:=(bL ti).1
      have jE:cF h j:=.inr (.inr (.inr (.inr (.inr ⟨_,_,_,_,ti⟩))))
      have sb:=nj.obj Jo (.mapIter (some rm.bw) kG (seen.toArray.push en.born) c)
      obtain ⟨q1,q2⟩:=Ai.2.set (o:=.iter i kG (seen++[e.1]) c) hr jE sb ⟨yd,rm,JQ,by rw [sb.here,g1];simp⟩
      have lZ:(setObj r.bw (.mapIter (some rm.bw) kG (seen.toArray.push en.born) c)).run P w1=.ok () { w1 with heap:=w1.heap.setIfInBounds r.bw (.mapIter (some rm.bw) kG (seen.toArray.push en.born) c) }:=by
       simp [setObj,Sem.run,Jo]
      refine ⟨(.tuple #[.bool true,e.2.1,e.2.2],h.set j (.iter i kG (seen++[e.1]) c)),?_,.tuple #[.bool true,en.key,en.val],_,gH (by rw [Jr];simp only [Sem.run_bind,lZ,Result.andThen_ok,Sem.run_pure]),?_,q1,hT1.trans q2⟩
      ·rw [←hn]
       refine List.mem_append_right _ (mem_map.2 ⟨e,?_,rfl⟩)
       have hl:e∈es.filter fun e=> !seen.contains e.1:=by
        rw [mem_filter,g1]
        exact ⟨he,by simp at Ju⊢;exact Ju.2⟩
       by_cases jZ:e.1<kG
       ·exact List.mem_append_left _ (mem_filter.2 ⟨hl,by simpa using jZ⟩)
       ·exact List.mem_append_right _ (mem_filter.2 ⟨hl,by simpa using le_of_not_lt jZ⟩)
      ·rw [g2]
       have RT:ax ρ en.key en.key:=by
        have hk:fz g en.key=true:=by
         obtain ⟨q',gT,e'⟩:=List.mem_iff_getElem.1 Ju.1
         have:aJ[q']?=some en:=by rw [←getElem?_toList,getElem?_eq_getElem gT,e']
         exact (E.inv this).choose_spec.2.1
        have ints:∀{kd:IntKind} {v:Value},kE kd v=true→ax ρ v v∧gK v=true:=by
         intro kd v hv
         cases v <;> simp [kE] at hv
         exact ⟨.int _ _,rfl⟩
        cases xU:en.key with
        | int kd n=>exact .int _ _
        | string s=>exact .string _
        | agg cs=>
         rw [xU] at hk
         cases g with
         | ints n kd=>
          simp only [fz,and_eq_true,all_eq_true] at hk
          refine .agg rfl (fun x hx=>(ints (hk.2 x hx).1).2) (fun k x x' hx bT=>?_)
          rw [hx] at bT
          cases bT
          exact (ints (hk.2 x (by rw [←getElem?_toList] at hx;exact mem_of_getElem? hx)).1).1
         | int _=>simp [fz,kE] at hk
         | str=>simp [fz] at hk
        | _=>rw [xU] at hk;cases g <;> simp [fz,kE] at hk
       exact ax.sJ (.cons (.bool _) (.cons RT (.cons g3 .nil)))
   ·cases hn
  ·cases hn
 ·cases hn
end
end
section
section
variable {P : Program} {N : Nat}
theorem avk {op:Op} {it:Operand} (h:iU P op=some (.next it)):op=.next it false:=by
 unfold iU at h
 split at h
 case h_13=>simp at h;subst h;rfl
 all_goals exfalso
 all_goals repeat' (split at h)
 all_goals first | (cases h;done) | (simp at h;done) | (simp only [map_eq_some_iff] at h;obtain ⟨_,_,h⟩:=h;cases h;done) | skip
theorem aAF {o:Oper} {io:iz} {f:Nat→Value} {h:ae} {K:Value→ae→Prop} (hc:vM P o.op=some io) (aE:o.op.operands.all jM=true) (hs:CV P io f h K):
  ∀R B ρ a w,eJ P N B ρ f h a w→∀(next:Act→World→Prop) (Q:Exit→Act→World→Prop),
   (∀v h' av v' w',K v h'→ax av v v'→a9 P av h' w'→Tr ρ h w av h' w'→next (a.put o.dst v') w')→o.wpIn (FR R) 0 P a w next Q:=by
 have det:dm P io f h K→∀R B ρ a w,eJ P N B ρ f h a w→∀(next:Act→World→Prop) (Q:Exit→Act→World→Prop),
   (∀v h' av v' w',K v h'→ax av v v'→a9 P av h' w'→Tr ρ h w av h' w'→next (a.put o.dst v') w')→o.wpIn (FR R) 0 P a w next Q:=by
  intro hs R B ρ a w Rr next Q hn
  obtain ⟨v,h',st,hk⟩:=AP (N:=N) hc aE hs
  exact st R B ρ a w Rr next Q fun av v' w' h1 h2 h3=>hn v h' av v' w' hk h1 h2 h3
 cases io with
 | e eo=>
  cases eo with
  | next it=>
   obtain ⟨l,hl,hk⟩:=hs
   rcases Qq hc with ⟨po,e,_⟩ | ⟨lo,e,_⟩ | ⟨eo,e,he⟩ | ⟨g,args,at_,_,_,e⟩ | ⟨x,args,at_,_,e⟩
   ·cases e
   ·cases e
   ·cases e
    have de:=avk he
    intro R B ρ a w Rr next Q hn
    rw [de] at aE
    simp [Op.operands] at aE
    obtain ⟨p,hp,v',w',h1,h2,h3,h4⟩:=aAr Rr.heap hl (Rr.ev aE) o.type
    exact Mf (ac2 hc) (v:=v') (w':=w') (by simp [execOp,de,h1]) (hn p.1 p.2 ρ v' w' (hk p hp) h2 h3 h4)
   ·cases e
   ·cases e
  | _=>exact det hs
 | _=>exact det hs
def oz (P:Program) (N:Nat) (ops:Array Oper) (j9:List Nat) (f:Nat→Value) (h:ae) (K:(Nat→Value)→ae→Prop):Prop:=
 ∀S B ρ a w,eJ P N B ρ f h a w→∀Q:Exit→Act→World→Prop,(∀f' h' av a' w',K f' h'→eJ P N B av f' h' a' w'→Tr ρ h w av h' w'→Q .normal a' w')→wpOpsIn (FR S) 0 P ops Q j9 a w
theorem iA.n {ops:Array Oper} {j9:List Nat} {f f':Nat→Value} {h h':ae} {K:(Nat→Value)→ae→Prop} (r:iA P N ops j9 f h f' h') (hk:K f' h'):oz P N ops j9 f h K:=
 fun S B ρ a w R Q hq=>r S B ρ a w R Q fun av a' w' R' T=>hq f' h' av a' w' hk R' T
theorem oz.append {ops:Array Oper} {i j:List Nat} {f:Nat→Value} {h:ae} {K K':(Nat→Value)→ae→Prop} (a:oz P N ops i f h K) (b:∀cZ h₁,K cZ h₁→oz P N ops j cZ h₁ K'):oz P N ops (i++j) f h K':=by
 intro S B ρ ac w R Q hq
 refine vg (a S B ρ ac w R _ ?_)
 intro cZ h₁ nJ yR oU hk yL T
 exact b cZ h₁ hk S B nJ yR oU yL Q fun f' h' av a' w' cj R' T'=>hq f' h' av a' w' cj R' (T.trans T')
theorem oz.weaken {ops:Array Oper} {j9:List Nat} {f cZ:Nat→Value} {h:ae} {K:(Nat→Value)→ae→Prop} (hw:tU cZ f) (hr:oz P N ops j9 cZ h K):oz P N ops j9 f h K:=
 fun S B ρ a w R=>hr S B ρ a w (R.weaken hw)
theorem ad3 {ops:Array Oper}:∀{l:List jA} {os:List Oper} {i:Nat} {K:(Nat→Value)→ae→Prop} {f:Nat→Value} {h:ae},(∀(k:Nat) (o:Oper),os[k]?=some o→ops[i+k]?=some o)→lT P N ops os=some (qF none l)→BV P l K f h→
  oz P N ops (range' i os.length) f h K
 | [],os,i,K,f,h,_,hc,hi=>by
  cases os with
  | nil=>exact fun S B ρ a w R Q hq=>hq f h ρ a w hi R (Tr.refl R.heap)
  | cons o os=>obtain ⟨x,xs,_,_,he⟩:=vL hc;simp [qF] at he
 | g::l,os,i,K,f,h,qO,hc,hi=>by
  cases os with
  | nil=>simp [lT,qF] at hc
  | cons o os=>
   obtain ⟨x,xs,h1,h2,he⟩:=vL hc
   simp only [qF,map_cons,List.cons.injEq] at he
   obtain ⟨rfl,rfl⟩:=he
   obtain ⟨q1,q2,q3,q4,q5⟩:=D3 h1
   have ho:ops[i]?=some o:=qO 0 o rfl
   have JL:∀(k:Nat) (o':Oper),os[k]?=some o'→ops[i+1+k]?=some o':=by
    intro k o' hk
    have:=qO (k+1) o' (by simpa using hk)
    rw [show i+(k+1)=i+1+k by omega] at this
    exact this
   intro S B ρ a w R Q hq
   rw [length_cons,List.range'_succ]
   simp only [wpOpsIn,ho]
   rw [if_pos (by rw [Gg q4 R trivial];rfl)]
   have bD:CV P g.op f h fun v h'=>BV P l K (dO f g.dst v) h':=hi
   refine aAF q3 q1 bD S B ρ a w R _ _ ?_
   intro v h' av v' w' hk hv H T
   have q5':g.dst=o.dst:=q5
   rw [q5'] at hk
   exact ad3 JL h2 hk S B av _ w' (R.uU q2 T hv H) Q fun Ed aW nf sV kh axI o9 T'=>hq Ed aW nf sV kh axI o9 (T.trans T')
theorem ac9 {ls:List Nat} {c:fx} {K:Exit→(Nat→Value)→ae→Prop} {f:Nat→Value} {h:ae} (hi:me P (xD ls c) K f h):∃f',tU f' f∧me P c K f' h:=by
 cases ls with
 | nil=>exact ⟨f,fun _=>.inl rfl,hi⟩
 | cons l ls=>exact ⟨_,Fy f (l::ls),hi⟩
theorem aEt {ops:Array Oper}:∀{gs:List (Option (Nat×Bool)×List jA)} {hs:Hints} {os:List Oper} {i:Nat} {K:Exit→(Nat→Value)→ae→Prop} {f:Nat→Value} {h:ae},
  (∀(k:Nat) (o:Oper),os[k]?=some o→ops[i+k]?=some o)→lT P N ops os=some (oE gs)→(∀g l,(g,l)∈gs→∀o∈l,leaves g o.dst=true)→me P (rz gs hs).1 K f h→
  oz P N ops (range' i os.length) f h (K .normal):=by
 intro gs
 induction gs with
 | nil=>
  intro hs os i K f h qO hc _ hi
  cases os with
  | nil=>exact fun S B ρ a w R Q hq=>hq f h ρ a w hi R (Tr.refl R.heap)
  | cons o os=>
   obtain ⟨x,xs,_,_,he⟩:=vL hc
   simp [oE] at he
 | cons a gs ih=>
  obtain ⟨g,l⟩:=a
  intro hs os i K f h qO hc hl hi
  simp only [oE] at hc
  obtain ⟨mi,gL,rfl,c0,c1⟩:=Qo hc
  have JM:∀(k:Nat) (o:Oper),mi[k]?=some o→ops[i+k]?=some o:=by
   intro k o hk
   refine qO k o ?_
   rw [getElem?_append_left (bL hk).1]
   exact hk
  have R9:∀(k:Nat) (o:Oper),gL[k]?=some o→ops[i+mi.length+k]?=some o:=by
   intro k o hk
   rw [Nat.add_assoc]
   refine qO _ o ?_
   rw [List.getElem?_append_right (by omega)]
   simpa using hk
  have first:∀{K:(Nat→Value)→ae→Prop},Kz P g l K f h→oz P N ops (range' i mi.length) f h K:=by
   intro K hk
   cases g with
   | none=>exact ad3 JM c0 hk
   | some sb=>
    obtain ⟨f',h',r1,r2⟩:=JY JM c0 (ai1 (fun o ho=>hl _ l (by simp) o ho) hk)
    exact r1.n r2
  have both:∀{Nu:(Nat→Value)→ae→Prop},oz P N ops (range' i mi.length) f h Nu→(∀cZ h₁,Nu cZ h₁→oz P N ops (range' (i+mi.length) gL.length) cZ h₁ (K .normal))→oz P N ops (range' i (mi++gL).length) f h (K .normal):=by
   intro Nu a b
   rw [List.length_append,←List.range'_append_1]
   exact a.append b
  have rest:∀{hs:Hints} {cZ:Nat→Value} {h₁:ae},me P (rz gs hs).1 K cZ h₁→oz P N ops (range' (i+mi.length) gL.length) cZ h₁ (K .normal):=
   fun hk=>ih R9 c1 (fun g' l' hm=>hl g' l' (by simp [hm])) hk
  cases gs with
  | nil=>
   have EN:me P (.ops g l) K f h:=by
    cases hs <;> exact hi
   have r1:=first EN
   have h1:gL=[]:=by
    cases gL with
    | nil=>rfl
    | cons o os=>obtain ⟨x,xs,_,_,he⟩:=vL c1;simp [oE] at he
   subst h1
   simpa using r1
  | cons b gs=>
   cases hs with
   | nil=>exact both (first (K:=fun f h=>me P (rz (b::gs) []).1 K f h) hi) fun cZ h₁ r2=>rest r2
   | cons h0 hs=>
    refine both (first (K:=fun f h=>me P (xD h0 (rz (b::gs) hs).1) K f h) hi) fun cZ h₁ r2=>?_
    obtain ⟨Q6,hw,r3⟩:=ac9 r2
    exact (rest r3).weaken hw
def yJ (P:Program) (N B:Nat) (ρ:aK) (h:ae) (w:World) (K:ar):Exit→Act→World→Prop:=
 fun e a' w'=>∃f' h' av,K e f' h'∧eJ P N B av f' h' a' w'∧Tr ρ h w av h' w'
def xt (P:Program) (N:Nat) (out:Bool) (c:Code) (f:Nat→Value) (h:ae) (K:ar):Prop:=
 ∀S,(out=true→S=none)→∀B ρ a w,eJ P N B ρ f h a w→c.wpIn (FR S) 0 P (yJ P N B ρ h w K) a w
def Br (P:Program) (N:Nat) (out:Bool) (c:Code) (f:Nat→Value) (h:ae) (K:ar):Prop:=
 ∀S,(out=true→S=none)→∀B ρ a w,eJ P N B ρ f h a w→ri S P c (yJ P N B ρ h w K) a w
variable {out : Bool}
theorem gZ.n {c:Code} {f f':Nat→Value} {h h':ae} {e:Exit} {K:ar} (r:gZ P N out c f h e f' h') (hk:K e f' h'):xt P N out c f h K:=by
 intro S hS B ρ a w R
 refine wpIn_mono (r S hS B ρ a w R) ?_
 rintro e' a' w' ⟨rfl,av,R',T⟩
 exact ⟨f',h',av,hk,R',T⟩
theorem yJ.trans {B:Nat} {ρ nJ:aK} {h h₁:ae} {w oU:World} {K:ar} (T:Tr ρ h w nJ h₁ oU):∀e' a' w',yJ P N B nJ h₁ oU K e' a' w'→yJ P N B ρ h w K e' a' w':=by
 rintro e' a' w' ⟨f',h',av,hk,R,T'⟩
 exact ⟨f',h',av,hk,R,T.trans T'⟩
theorem xt.weaken {c:Code} {f cZ:Nat→Value} {h:ae} {K:ar} (hw:tU cZ f) (hr:xt P N out c cZ h K):xt P N out c f h K:=
 fun S hS B ρ a w R=>hr S hS B ρ a w (R.weaken hw)
theorem Br.weaken {c:Code} {f cZ:Nat→Value} {h:ae} {K:ar} (hw:tU cZ f) (hr:Br P N out c cZ h K):Br P N out c f h K:=
 fun S hS B ρ a w R=>hr S hS B ρ a w (R.weaken hw)
theorem ay3 {out:Bool}:∀{c:Code} {hs dT:Hints} {ic:fx},fM P N c hs=some (ic,dT)→(out=true∨iO c=true)→∀{K:ar} {f:Nat→Value} {h:ae},me P ic K f h→xt P N out c f h K:=by
 intro c
 induction c with
 | skip=>
  intro hs dT ic hc ho K f h hi
  simp [fM] at hc
  obtain ⟨rfl,_⟩:=hc
  exact fun S hS B ρ a w R=>wpIn_skip ⟨f,h,ρ,hi,R,Tr.refl R.heap⟩
 | region id ops draw=>
  intro hs dT ic hc ho K f h hi
  cases draw with
  | true=>
   simp only [fM] at hc
   split at hc
   ·rename_i l hl
    split at hc
    ·rename_i wk
     simp at hc
     obtain ⟨rfl,_⟩:=hc
     have hO:=adU (adm wk) hi
     rw [IG] at hO
     obtain ⟨f',h',r1,r2⟩:=afI (id:=id) hl hO
     exact r1.n r2
    ·cases hc
   ·cases hc
  | false=>
   simp only [fM] at hc
   split at hc
   ·rename_i l hl
    split at hc
    ·rename_i wk
     simp only [Option.some.injEq] at hc
     have he:ic=(rz (uz l) hs).1:=by rw [hc]
     subst he
     have r1:=aEt (i:=0) (os:=ops.toList) (ops:=ops) (fun k o hk=>by simpa using hk) (by rw [I7];exact hl) (agl wk) hi
     intro S hS B ρ a w R
     refine wpIn_region ?_
     rw [List.range_eq_range']
     have r1':oz P N ops (range' 0 ops.size) f h (K .normal):=by simpa using r1
     refine r1' S B ρ a w R _ ?_
     intro f' h' av a' w' hk R' T
     exact ⟨f',h',av,hk,R',T⟩
    ·cases hc
   ·simp at hc
    obtain ⟨rfl,_⟩:=hc
    exact (show False from hi).elim
 | seq x y Ar As=>
  intro hs dT ic hc ho K f h hi
  have zW:out=true∨iO x=true:=ho.imp id fun h=>by simp only [iO,and_eq_true] at h;exact h.1
  have zX:out=true∨iO y=true:=ho.imp id fun h=>by simp only [iO,and_eq_true] at h;exact h.2
  have both:∀{a b:fx} {h0 ju iF:Hints} {ls:List Nat},fM P N x hs=some (a,h0)→fM P N y ju=some (b,iF)→me P (.seq a (xD ls b)) K f h→xt P N out (.seq x y) f h K:=by
   intro a b h0 ju iF ls ha hb hi
   have r1:=Ar ha zW hi
   intro S hS B ρ ac w R
   refine wpIn_seq (wpIn_mono (r1 S hS B ρ ac w R) ?_)
   rintro e' a' w' ⟨cZ,h₁,nJ,hk,yL,T⟩
   cases e' with
   | normal=>
    obtain ⟨Q6,hw,r3⟩:=ac9 hk
    exact wpIn_mono (((As hb zX r3).weaken hw) S hS B nJ a' w' yL) (yJ.trans T)
   | _=>exact ⟨cZ,h₁,nJ,hk,yL,T⟩
  simp only [fM] at hc
  split at hc
  ·rename_i a h0 ju ha
   split at hc
   ·rename_i b iF hb
    simp at hc
    obtain ⟨rfl,_⟩:=hc
    exact both ha hb hi
   ·cases hc
  ·rename_i a ha
   split at hc
   ·rename_i b iF hb
    simp at hc
    obtain ⟨rfl,_⟩:=hc
    exact both (ls:=[]) ha hb hi
   ·cases hc
  ·cases hc
 | cond c x y Ar As=>
  intro hs dT ic hc ho K f h hi
  have zW:out=true∨iO x=true:=ho.imp id fun h=>by simp only [iO,and_eq_true] at h;exact h.1
  have zX:out=true∨iO y=true:=ho.imp id fun h=>by simp only [iO,and_eq_true] at h;exact h.2
  simp only [fM] at hc
  split at hc
  ·rename_i aE
   split at hc
   ·rename_i a ju ha
    split at hc
    ·rename_i b iF hb
     simp at hc
     obtain ⟨rfl,_⟩:=hc
     have hi:pS (ev f c) (me P a K f h) (me P b K f h):=hi
     simp only [pS] at hi
     split at hi
     ·rename_i t ht
      have go:xt P N out (if t then x else y) f h K→xt P N out (.cond c x y) f h K:=by
       intro r S hS B ρ ac w R
       have:=R.ev aE
       rw [ht] at this
       exact wpIn_cond this.yV (r S hS B ρ ac w R)
      cases t
      ·simp at hi
       exact go (by simpa using As hb zX hi)
      ·simp at hi
       exact go (by simpa using Ar ha zW hi)
     ·exact hi.elim
    ·cases hc
   ·cases hc
  ·cases hc
 | block id c ih=>
  intro hs dT ic hc ho K f h hi
  simp only [fM] at hc
  split at hc
  ·rename_i a ju ha
   simp at hc
   obtain ⟨rfl,_⟩:=hc
   have r1:=ih ha (ho.imp (fun h=>h) fun h=>h) (K:=bO id K) hi
   intro S hS B ρ ac w R
   refine wpIn_block (wpIn_mono (r1 S hS B ρ ac w R) ?_)
   rintro e' a' w' ⟨f',h',av,hk,R',T⟩
   cases e' with
   | exit i=>
    simp only [Exit.inBlock,bO] at hk⊢
    split <;> rename_i h
    ·rw [if_pos h] at hk;exact ⟨f',h',av,hk,R',T⟩
    ·rw [if_neg h] at hk;exact ⟨f',h',av,hk,R',T⟩
   | _=>exact ⟨f',h',av,hk,R',T⟩
  ·cases hc
 | loop c ih=>
  intro hs dT ic hc ho K f h hi
  simp only [fM] at hc
  split at hc
  ·rename_i ks ls ju
   split at hc
   ·rename_i a iF ha
    simp at hc
    obtain ⟨rfl,_⟩:=hc
    obtain ⟨J,μ,h0,Ss⟩:=hi
    have key:∀(n:Nat) (xs:List Value) (hh:ae),μ xs hh=n→J xs hh→Br P N out c (kF (ks++ls) (ks.map f++xs)) hh K:=by
     intro n
     induction n using Nat.strongRecOn with
     | _ n tE=>
      intro xs hh hn hJ
      have r1:=ih ha (ho.imp (fun h=>h) fun h=>h) (Ss xs hh hJ)
      intro S hS B ρ ac w R
      refine ri.round (wpIn_mono (r1 S hS B ρ ac w R) ?_)
      rintro e' a' w' ⟨cZ,h₁,nJ,hk,yL,T⟩
      cases e' with
      | normal=>
       obtain ⟨hk,Rm,aD⟩:=hk
       have s1:=tE (μ (ls.map cZ) h₁) (by omega) (ls.map cZ) h₁ rfl Rm
       have s2:Br P N out c cZ h₁ K:=s1.weaken (by rw [←hk];exact Ky cZ ks ls _ rfl)
       exact (s2 S hS B nJ a' w' yL).mono (yJ.trans T)
      | _=>exact ⟨cZ,h₁,nJ,hk,yL,T⟩
    have s1:Br P N out c f h K:=(key _ (ls.map f) h rfl h0).weaken (Ky f ks ls _ rfl)
    exact fun S hS B ρ ac w R=>(s1 S hS B ρ ac w R).wp
   ·cases hc
  ·cases hc
 | exit id=>
  intro hs dT ic hc ho K f h hi
  simp [fM] at hc
  obtain ⟨rfl,_⟩:=hc
  exact fun S hS B ρ a w R=>wpIn_exit ⟨f,h,ρ,hi,R,Tr.refl R.heap⟩
 | ret=>
  intro hs dT ic hc ho K f h hi
  simp [fM] at hc
  obtain ⟨rfl,_⟩:=hc
  exact fun S hS B ρ a w R=>wpIn_ret ⟨f,h,ρ,hi,R,Tr.refl R.heap⟩
 | rangeFunc g ps ky body=>
  intro hs dT ic hc ho K f h hi
  have ho:out=true:=ho.resolve_right (by simp [iO])
  subst ho
  simp only [fM] at hc
  split at hc
  ·rename_i ls ju
   split at hc
   ·rename_i hk
    simp at hc
    obtain ⟨rfl,_⟩:=hc
    simp only [and_eq_true] at hk
    obtain ⟨h',r1,r2⟩:=amQ hk.1 hi
    exact r1.n r2
   ·cases hc
  ·cases hc
 | _=>intro hs dT ic hc;simp [fM] at hc
end
def SW (P:Program) (F:FuncId) (args:List Value) (h:ae) (K:Value→ae→Prop):Prop:=
 ∀(ρ:aK) (args':Array Value) (w:World),bG ρ args args'.toList→a9 P ρ h w→
  Calls P F args' w fun e w'=>∃v h' v' av,K v h'∧e=.returned v'∧ax av v v'∧a9 P av h' w'∧Tr ρ h w av h' w'
theorem ayH {P:Program} {F:FuncId} {N:Nat} {ic:fx} {rs:List kN} {hs:Hints} {h:ae} (hc:bz P F hs=some (N,ic,rs)) {args:List Value} (ha:args.length≤N) {K:Value→ae→Prop}
  (hi:me P ic (Ps rs K) (bt args) h):SW P F args h K:=by
 unfold bz at hc
 split at hc
 ·rename_i fn hf
  split at hc
  ·rename_i c hb
   split at hc
   ·rename_i ic' _ VZ h1 h2
    simp at hc
    obtain ⟨hN,rfl,rfl⟩:=hc
    have r1:=ay3 (out:=true) h1 (.inl rfl) hi
    intro ρ args' w hv H
    refine callsIn_wide.1 (callsIn_of_wp_marks (F:=Fence.wide) (n:=0) hf hb trivial ?_ rfl)
    have jJ:args'.size=args.length:=by have:=hv.length;simpa using this.symm
    have R:eJ P fn.ntmps w.heap.size ρ (bt args) h { tmps:=args'++replicate (fn.ntmps-args'.size) Go.undef,defers:=[] } w:=⟨by simp;omega,le_refl _,adQ hv fn.ntmps,H⟩
    refine wpIn_mono (r1 none (fun _=>rfl) _ ρ _ w R) ?_
    rintro e' a' w' ⟨f',h',av,hk,R',T⟩
    have tu:(e'=.normal∨e'=.ret)∧Ls VZ K f' h':=by
     cases e' <;> first | exact ⟨.inl rfl,hk⟩ | exact ⟨.inr rfl,hk⟩ | exact hk.elim
    obtain ⟨he,tu⟩:=tu
    obtain ⟨vs,uI,tu⟩:=Lt tu
    have key:LeavesInM Fence.wide 0 P fn a'.tmps (fun e w'=>∃v h' v' av,K v h'∧e=.returned v'∧ax av v v'∧a9 P av h' w'∧Tr ρ h w av h' w') a'.defers .returning w':=by
     refine Tm R'.defers R'.heap T ?_
     intro kh Dm uc
     have o9:eJ P fn.ntmps 0 av f' h' { a' with defers:=[] } kh:=⟨R'.size,Nat.zero_le _,R'.tmp,Dm⟩
     obtain ⟨v',q1,q2⟩:=anc o9 h2 uI
     exact ⟨v',q1,pack vs,h',v',av,tu,rfl,q2,Dm,uc⟩
    rcases he with rfl | rfl
    ·exact key
    ·exact key
   ·cases hc
  ·cases hc
 ·cases hc
end
end Go.Sim
