/-
  Part 2 of the texts behind a statement of this seat: Sim15, Sim17, Sim18, Sim18b, Sim18c, Sim18d, Sim18e, Sim18f, Sim19, Sim19b, Sim16, Sim20, Sim21, Sim23, Sim24, Sim25, Sim26.
-/
import Derived.ProofKit
import Derived.OpenShut
import Derived.Test.YtelmdbpaoifmoaaGreatMu1
open Array (getElem?_toList replicate)
open Bool (and_eq_true or_eq_true)
open Classical (byContradiction choose_spec)
open List (all_eq_true cons_append getD getElem?_append_left getElem?_eq_getElem getElem?_eq_none getElem?_set_ne getElem?_set_self length_cons map_cons mem_cons mem_cons_of_mem mem_filter mem_map mem_of_getElem? mem_range nodup_cons range')
open Nat (add_zero le_of_not_lt le_refl zero_add)
open Option (bind_some getD_some map_eq_some_iff map_some)
namespace Go.Sim
section
section
variable {P : Program} {N : Nat}
def gX (P:Program) (N:Nat) (ops:Array Oper) (jX:List Nat) (f:Nat→Value) (h:ae) (f':Nat→Value) (h':ae):Prop:=
 ∀S B ρ a w,ee P N B ρ f h a w→∀Q:Exit→Act→World→Prop,(∀av a' w',ee P N B av f' h' a' w'→Tr ρ h w av h' w'→Q .normal a' w')→wpOpsIn (FR S) 0 P ops Q jX a w
theorem gX.nil {ops:Array Oper} {f:Nat→Value} {h:ae}:gX P N ops [] f h f h:=fun _ _ ρ a w R _ hq=>hq ρ a w R (Tr.refl R.heap)
theorem ee.uF {B:Nat} {ρ av:aL} {f:Nat→Value} {h h':ae} {a:Act} {w w':World} (R:ee P N B ρ f h a w) {d:Option Nat} (hd:d.all (·<N)=true) {v v':Value} (T:Tr ρ h w av h' w') (hv:ax av v v') (H:aY P av h' w'):
  ee P N B av (dG f d v) h' (a.put d v') w':=by
 cases d with
 | none=>exact R.mono T H
 | some d=>exact R.put (by simpa using hd) T hv H
theorem gX.step {ops:Array Oper} {i:Nat} {jX:List Nat} {o:Oper} {f f':Nat→Value} {h h₁ h':ae} {v:Value} (ho:ops[i]?=some o) (hd:o.dst.all (·<N)=true)
  (hw:∀B ρ a w,ee P N B ρ f h a w→Region.wanted o (yielded ops a.tmps)=true) (hs:GL P N o f h v h₁) (hr:gX P N ops jX (dG f o.dst v) h₁ f' h'):gX P N ops (i::jX) f h f' h':=by
 intro S B ρ a w R Q hq
 simp only [wpOpsIn,ho]
 rw [if_pos (hw B ρ a w R)]
 refine hs S B ρ a w R _ _ ?_
 intro av v' w' hv H T
 exact hr S B av _ w' (R.uF hd T hv H) Q fun mL sJ jZ oV T'=>hq mL sJ jZ oV (T.trans T')
theorem gX.pass {ops:Array Oper} {i:Nat} {jX:List Nat} {o:Oper} {f f':Nat→Value} {h h':ae} (ho:ops[i]?=some o) (hd:o.dst.all (·<N)=true)
  (hw:∀B ρ a w,ee P N B ρ f h a w→Region.wanted o (yielded ops a.tmps)=false) (hr:gX P N ops jX (dG f o.dst undef) h f' h'):gX P N ops (i::jX) f h f' h':=by
 intro S B ρ a w R Q hq
 simp only [wpOpsIn,ho]
 rw [if_neg (by rw [hw B ρ a w R];simp)]
 exact ⟨fun _ _=>trivial,hr S B ρ _ w (R.uF hd (Tr.refl R.heap) (ax.undef _) R.heap) Q hq⟩
def sP (g:Option (Nat×Bool)) (f:Nat→Value):Prop:=
 match g with
 | none=>True
 | some (s,_)=>wj (f s)=false
theorem axX {ρ:aL} {v v':Value} (h:ax ρ v v') (hb:wj v=false) (b:Bool):qY v' b=qY v b:=by
 cases h <;> first | rfl | simp [wj] at hb
theorem IW {v:Value} {b:Bool} {A B:Prop} (h:kH v b A B):wj v=false∧((qY v b=true∧A)∨(qY v b=false∧B)):=by
 unfold kH at h
 split at h
 ·rename_i c
  refine ⟨rfl,?_⟩
  split at h
  ·rename_i hc;exact .inl ⟨hc,h⟩
  ·rename_i hc;exact .inr ⟨by simpa [qY] using hc,h⟩
 ·exact h.elim
 ·rename_i x h1 h2
  have e1:wj v=false:=by
   cases v <;> first | rfl | exact absurd rfl (h2 _ _ _)
  have e2:qY v b=false:=by
   cases v <;> first | rfl | exact absurd rfl (h1 _)
  exact ⟨e1,.inr ⟨e2,h⟩⟩
theorem F0 {ops:Array Oper} {o:Oper} {g:Option (Nat×Bool)} (hg:Io N ops o.guard=some g) {B:Nat} {ρ:aL} {f:Nat→Value} {h:ae} {a:Act} {w:World} (R:ee P N B ρ f h a w) (hb:sP g f):
  Region.wanted o (yielded ops a.tmps)=iO g f:=by
 unfold Io at hg
 unfold Region.wanted
 cases kL:o.guard with
 | none=>rw [kL] at hg;simp at hg;subst hg;rfl
 | some jb=>
  obtain ⟨j,b⟩:=jb
  rw [kL] at hg
  simp only at hg⊢
  split at hg
  ·rename_i s hs
   split at hg
   ·rename_i aD
    simp at hg;subst hg
    simp only [iO]
    have hr:=R.tmp s
    have kn:s<a.tmps.size:=by rw [R.size];exact aD
    have bT:a.tmps[s]?=some (a.tmps.getD s Go.undef):=by simp [Array.getD,kn]
    rw [←axX hr hb b]
    unfold yielded
    rw [hs]
    simp only [bind_some,bT]
    generalize a.tmps.getD s Go.undef=u
    cases u <;> simp [qY]
   ·cases hg
  ·cases hg
def tJ (f' f:Nat→Value):Prop:=∀t,f' t=f t∨f' t=YY
theorem ee.weaken {B:Nat} {ρ:aL} {f f':Nat→Value} {h:ae} {a:Act} {w:World} (R:ee P N B ρ f h a w) (hw:tJ f' f):ee P N B ρ f' h a w:=
 ⟨R.size,R.defers,fun t=>(hw t).elim (fun e=>by rw [e];exact R.tmp t) (fun e=>by rw [e];exact .any _),R.heap⟩
theorem Fh (f:Nat→Value):∀ls:List Nat,tJ (kA ls (ls.map f)) f
 | [],t=>.inr rfl
 | l::ls,t=>by
  simp only [map_cons,azK]
  by_cases h:t=l
  ·subst h;simp
  ·rw [if_neg h];exact Fh f ls t
theorem gX.weaken {ops:Array Oper} {jX:List Nat} {f cV f':Nat→Value} {h h':ae} (hw:tJ cV f) (hr:gX P N ops jX cV h f' h'):gX P N ops jX f h f' h':=
 fun S B ρ a w R=>hr S B ρ a w (R.weaken hw)
theorem gR.weaken {b:Bool} {c:Code} {f cV f':Nat→Value} {h h':ae} {e:Exit} (hw:tJ cV f) (hr:gR P N b c cV h e f' h'):gR P N b c f h e f' h':=
 fun S hS B ρ a w R=>hr S hS B ρ a w (R.weaken hw)
theorem uP {S:Option Nat} {ops:Array Oper} {Q:Exit→Act→World→Prop}:∀{i j:List Nat} {a:Act} {w:World},wpOpsIn (FR S) 0 P ops (fun e a w=>match e with | .normal=>wpOpsIn (FR S) 0 P ops Q j a w | e=>Q e a w) i a w→wpOpsIn (FR S) 0 P ops Q (i++j) a w
 | [],j,a,w,h=>h
 | i::is,j,a,w,h=>by
  simp only [cons_append,wpOpsIn] at h⊢
  cases ho:ops[i]? with
  | none=>rw [ho] at h;exact uP h
  | some o=>
   rw [ho] at h
   simp only at h⊢
   split at h
   ·rename_i hw
    rw [if_pos hw]
    obtain ⟨h0,h⟩:=h
    refine ⟨h0,?_⟩
    generalize (o.semAt (FR S).round a.eval).run P w=r at h⊢
    cases r with
    | ok x w'=>
     cases x <;> simp only [Oper.uponIn] at h⊢
     ·exact uP h
     ·exact uP h
     ·refine ⟨h.1,h.2.mono ?_⟩
      rintro e jZ hR
      cases e with
      | returned v=>exact uP hR
      | panicked chain=>exact hR
      | outgrown=>exact hR
     ·refine ⟨h.1,h.2.mono ?_⟩
      rintro e jZ hR
      cases e with
      | returned v=>exact uP hR
      | panicked chain=>exact hR
      | outgrown=>exact hR
     ·exact uP h
     ·refine ⟨h.1,h.2.mono ?_⟩
      rintro v jZ hR
      exact uP hR
    | halt x w'=>
     cases x <;> simp only [Oper.uponIn] at h⊢
     exact h
   ·rename_i hw
    rw [if_neg hw]
    exact ⟨h.1,uP h.2⟩
theorem gX.append {ops:Array Oper} {i j:List Nat} {f cV f':Nat→Value} {h h₁ h':ae} (a:gX P N ops i f h cV h₁) (b:gX P N ops j cV h₁ f' h'):gX P N ops (i++j) f h f' h':=by
 intro S B ρ ac w R Q hq
 refine uP (a S B ρ ac w R _ ?_)
 intro av a' w' R' T
 exact b S B av a' w' R' Q fun mL sJ jZ oV T'=>hq mL sJ jZ oV (T.trans T')
theorem DK {ops:Array Oper} {o:Oper} {x:iT} (h:yM P N ops o=some x):
  o.op.operands.all jC=true∧o.dst.all (·<N)=true∧vz P o.op=some x.op∧Io N ops o.guard=some x.guard∧x.dst=o.dst:=by
 unfold yM at h
 split at h
 ·rename_i hc
  simp only [and_eq_true] at hc
  split at h
  ·rename_i op g h1 h2
   simp at h;subst h
   exact ⟨hc.1,hc.2,h1,h2,rfl⟩
  ·cases h
 ·cases h
theorem vp {ops:Array Oper} {o:Oper} {os:List Oper} {l:List iT} (h:lN P N ops (o::os)=some l):∃x xs,yM P N ops o=some x∧lN P N ops os=some xs∧l=x::xs:=by
 simp only [lN] at h
 split at h
 ·rename_i x xs h1 h2
  simp at h
  exact ⟨x,xs,h1,h2,h.symm⟩
 ·cases h
theorem JA {ops:Array Oper}:∀{os:List Oper} {l:List iT} {i:Nat} {K:(Nat→Value)→ae→Prop} {f:Nat→Value} {h:ae},(∀(k:Nat) (o:Oper),os[k]?=some o→ops[i+k]?=some o)→lN P N ops os=some l→ti P l K f h→
  ∃f' h',gX P N ops (range' i os.length) f h f' h'∧K f' h'
 | [],l,i,K,f,h,_,hc,hi=>by
  simp [lN] at hc
  subst hc
  exact ⟨f,h,gX.nil,hi⟩
 | o::os,l,i,K,f,h,qL,hc,hi=>by
  obtain ⟨x,xs,h1,h2,rfl⟩:=vp hc
  obtain ⟨q1,q2,q3,q4,q5⟩:=DK h1
  have ho:ops[i]?=some o:=qL 0 o rfl
  have Jl:∀(k:Nat) (o':Oper),os[k]?=some o'→ops[i+1+k]?=some o':=by
   intro k o' hk
   have:=qL (k+1) o' (by simpa using hk)
   rw [show i+(k+1)=i+1+k by omega] at this
   exact this
  have go:∀(_:sP x.guard f) (_:iO x.guard f=true),dd P x.op f h (fun v h'=>ti P xs K (dG f x.dst v) h')→
    ∃f' h',gX P N ops (range' i (o::os).length) f h f' h'∧K f' h':=by
   intro hb hw hs
   obtain ⟨v,h',bK,hk⟩:=Av (N:=N) q3 q1 hs
   obtain ⟨DW,aT,r1,r2⟩:=JA Jl h2 hk
   refine ⟨DW,aT,?_,r2⟩
   rw [length_cons,List.range'_succ]
   rw [q5] at r1
   exact gX.step ho q2 (fun B ρ a w R=>by rw [F0 q4 R hb,hw]) bK r1
  have skip:∀(_:sP x.guard f) (_:iO x.guard f=false),ti P xs K (dG f x.dst undef) h→
    ∃f' h',gX P N ops (range' i (o::os).length) f h f' h'∧K f' h':=by
   intro hb hw hs
   obtain ⟨DW,aT,r1,r2⟩:=JA Jl h2 hs
   refine ⟨DW,aT,?_,r2⟩
   rw [length_cons,List.range'_succ]
   rw [q5] at r1
   exact gX.pass ho q2 (fun B ρ a w R=>by rw [F0 q4 R hb,hw]) r1
  simp only [ti] at hi
  split at hi
  ·rename_i kL
   exact go (by rw [kL];trivial) (by rw [kL];rfl) hi
  ·rename_i s b kL
   obtain ⟨e1,e2⟩:=IW hi
   rcases e2 with ⟨e2,e3⟩ | ⟨e2,e3⟩
   ·exact go (by rw [kL];exact e1) (by rw [kL];exact e2) e3
   ·exact skip (by rw [kL];exact e1) (by rw [kL];exact e2) e3
def qD (g:Option (Nat×Bool)) (l:List jf):List iT:=l.map fun o=>⟨o.dst,o.op,g⟩
def oh:List (Option (Nat×Bool)×List jf)→List iT
 | []=>[]
 | (g,l)::gs=>qD g l++oh gs
theorem IL:∀os:List iT,oh (tZ os)=os
 | []=>rfl
 | o::os=>by
  have ih:=IL os
  simp only [tZ]
  cases hg:tZ os with
  | nil=>
   rw [hg] at ih
   simp only [oh] at ih
   subst ih
   simp [oh,qD]
  | cons a gs=>
   obtain ⟨g,l⟩:=a
   rw [hg] at ih
   simp only
   split
   ·rename_i he
    simp only [oh,qD,map_cons,cons_append] at ih⊢
    rw [ih,←he]
   ·simp only [oh,qD,map_cons,List.map_nil,cons_append,List.nil_append] at ih⊢
    rw [ih]
theorem QF {v:Value} {b:Bool} {A B:Prop} (hb:wj v=false) (hA:qY v b=true→A) (hB:qY v b=false→B):kH v b A B:=by
 unfold kH
 split
 ·split
  ·rename_i c hc;exact hA hc
  ·rename_i c hc;exact hB (by simpa [qY] using hc)
 ·simp [wj] at hb
 ·rename_i x h1 h2
  refine hB ?_
  cases v <;> first | rfl | exact absurd rfl (h1 _)
theorem ah8 {g:Option (Nat×Bool)} {K:(Nat→Value)→ae→Prop}:∀{l:List jf} {f:Nat→Value} {h:ae},(∀o∈l,leaves g o.dst=true)→tA P g l K f h→ti P (qD g l) K f h:=by
 intro l f h hl hk
 cases g with
 | none=>
  simp only [tA] at hk
  clear hl
  induction l generalizing f h with
  | nil=>exact hk
  | cons o l ih=>
   simp only [xr] at hk
   simp only [qD,map_cons,ti]
   have:dd P o.op f h (fun v h'=>ti P (qD none l) K (dG f o.dst v) h'):=by
    have mono:∀{io:gW} {K K':Value→ae→Prop},(∀v h,K v h→K' v h)→dd P io f h K→dd P io f h K':=by
     intro io K K' hm hs
     cases io with
     | p po=>simp only [dd,fD] at hs⊢;split at hs <;> first | exact hm _ _ hs | exact hs.elim
     | l lo=>simp only [dd,fD] at hs⊢;split at hs <;> first | exact hm _ _ hs | exact hs.elim
     | e eo=>simp only [dd,nQ] at hs⊢;split at hs <;> first | exact hm _ _ hs | exact hs.elim
     | call g args=>exact hs.mono hm
     | kY x args=>simp only [dd,tQ] at hs⊢;split at hs <;> first | exact ⟨hs.1,hs.2.mono hm⟩ | exact hs.elim
    exact mono (fun v h' b9=>ih b9) hk
   exact this
 | some sb=>
  obtain ⟨s,b⟩:=sb
  simp only [tA] at hk
  obtain ⟨e1,e2⟩:=IW hk
  clear hk
  induction l generalizing f h with
  | nil=>
   rcases e2 with ⟨_,e⟩ | ⟨_,e⟩ <;> exact e
  | cons o l ih=>
   have hd:o.dst≠some s:=by simpa [leaves] using hl o (by simp)
   have hs:∀v,dG f o.dst v s=f s:=by
    intro v
    cases ho:o.dst with
    | none=>rfl
    | some d=>
     have:s≠d:=by rintro rfl;exact hd ho
     simp [dG,tH,this]
   simp only [qD,map_cons,ti]
   refine QF e1 (fun hb=>?_) (fun hb=>?_)
   ·rcases e2 with ⟨_,e⟩ | ⟨e,_⟩
    ·simp only [xr] at e
     have mono:∀{io:gW} {K K':Value→ae→Prop},(∀v h,K v h→K' v h)→dd P io f h K→dd P io f h K':=by
      intro io K K' hm hs
      cases io with
      | p po=>simp only [dd,fD] at hs⊢;split at hs <;> first | exact hm _ _ hs | exact hs.elim
      | l lo=>simp only [dd,fD] at hs⊢;split at hs <;> first | exact hm _ _ hs | exact hs.elim
      | e eo=>simp only [dd,nQ] at hs⊢;split at hs <;> first | exact hm _ _ hs | exact hs.elim
      | call g args=>exact hs.mono hm
      | kY x args=>simp only [dd,tQ] at hs⊢;split at hs <;> first | exact ⟨hs.1,hs.2.mono hm⟩ | exact hs.elim
     refine mono (fun v h' b9=>?_) e
     exact ih (fun o' dL=>hl o' (by simp [dL])) (by rw [hs];exact e1) (.inl ⟨by rw [hs];exact hb,b9⟩)
    ·rw [hb] at e;cases e
   ·rcases e2 with ⟨e,_⟩ | ⟨_,e⟩
    ·rw [hb] at e;cases e
    ·exact ih (fun o' dL=>hl o' (by simp [dL])) (by rw [hs];exact e1) (.inr ⟨by rw [hs];exact hb,e⟩)
theorem PM {ops:Array Oper}:∀{os:List Oper} {m0 m1:List iT},lN P N ops os=some (m0++m1)→∃lZ gE,os=lZ++gE∧lN P N ops lZ=some m0∧lN P N ops gE=some m1
 | os,[],m1,h=>⟨[],os,rfl,rfl,h⟩
 | [],x::m0,m1,h=>by simp [lN] at h
 | o::os,x::m0,m1,h=>by
  obtain ⟨y,ys,h1,h2,he⟩:=vp h
  simp only [cons_append,List.cons.injEq] at he
  obtain ⟨rfl,rfl⟩:=he
  obtain ⟨lZ,gE,rfl,e1,e2⟩:=PM h2
  refine ⟨o::lZ,gE,rfl,?_,e2⟩
  simp [lN,h1,e1]
theorem acs {ls:List Nat} {c:fa} {K:Exit→(Nat→Value)→ae→Prop} {f:Nat→Value} {h:ae} (hi:iZ P (xd ls c) K f h):∃f',tJ f' f∧iZ P c K f' h:=by
 cases ls with
 | nil=>exact ⟨f,fun _=>.inl rfl,hi⟩
 | cons l ls=>exact ⟨_,Fh f (l::ls),hi⟩
theorem aDB {ops:Array Oper}:∀{gs:List (Option (Nat×Bool)×List jf)} {hs:Hints} {os:List Oper} {i:Nat} {K:Exit→(Nat→Value)→ae→Prop} {f:Nat→Value} {h:ae},
  (∀(k:Nat) (o:Oper),os[k]?=some o→ops[i+k]?=some o)→lN P N ops os=some (oh gs)→(∀g l,(g,l)∈gs→∀o∈l,leaves g o.dst=true)→iZ P (rp gs hs).1 K f h→
  ∃f' h',gX P N ops (range' i os.length) f h f' h'∧K .normal f' h':=by
 intro gs
 induction gs with
 | nil=>
  intro hs os i K f h qL hc _ hi
  cases os with
  | nil=>exact ⟨f,h,gX.nil,hi⟩
  | cons o os=>
   obtain ⟨x,xs,_,_,he⟩:=vp hc
   simp [oh] at he
 | cons a gs ih=>
  obtain ⟨g,l⟩:=a
  intro hs os i K f h qL hc hl hi
  simp only [oh] at hc
  obtain ⟨lZ,gE,rfl,c0,c1⟩:=PM hc
  have Jm:∀(k:Nat) (o:Oper),lZ[k]?=some o→ops[i+k]?=some o:=by
   intro k o hk
   refine qL k o ?_
   rw [getElem?_append_left (bD hk).1]
   exact hk
  have Ri:∀(k:Nat) (o:Oper),gE[k]?=some o→ops[i+lZ.length+k]?=some o:=by
   intro k o hk
   rw [Nat.add_assoc]
   refine qL _ o ?_
   rw [List.getElem?_append_right (by omega)]
   simpa using hk
  have first:∀{K:(Nat→Value)→ae→Prop},tA P g l K f h→∃f' h',gX P N ops (range' i lZ.length) f h f' h'∧K f' h':=by
   intro K hk
   exact JA Jm c0 (ah8 (fun o ho=>hl g l (by simp) o ho) hk)
  have both:∀{cV:Nat→Value} {h₁:ae} {f':Nat→Value} {h':ae},gX P N ops (range' i lZ.length) f h cV h₁→gX P N ops (range' (i+lZ.length) gE.length) cV h₁ f' h'→gX P N ops (range' i (lZ++gE).length) f h f' h':=by
   intro cV h₁ f' h' a b
   rw [List.length_append,←List.range'_append_1]
   exact a.append b
  have rest:∀{hs:Hints} {cV:Nat→Value} {h₁:ae},iZ P (rp gs hs).1 K cV h₁→∃f' h',gX P N ops (range' (i+lZ.length) gE.length) cV h₁ f' h'∧K .normal f' h':=
   fun hk=>ih Ri c1 (fun g' l' hm=>hl g' l' (by simp [hm])) hk
  cases gs with
  | nil=>
   have EC:iZ P (.ops g l) K f h:=by
    cases hs <;> exact hi
   obtain ⟨f',h',r1,r2⟩:=first EC
   have h1:gE=[]:=by
    cases gE with
    | nil=>rfl
    | cons o os=>obtain ⟨x,xs,_,_,he⟩:=vp c1;simp [oh] at he
   subst h1
   exact ⟨f',h',by simpa using r1,r2⟩
  | cons b gs=>
   cases hs with
   | nil=>
    obtain ⟨cV,h₁,r1,r2⟩:=first (K:=fun f h=>iZ P (rp (b::gs) []).1 K f h) hi
    obtain ⟨f',h',s1,s2⟩:=rest r2
    exact ⟨f',h',both r1 s1,s2⟩
   | cons h0 hs=>
    obtain ⟨cV,h₁,r1,r2⟩:=first (K:=fun f h=>iZ P (xd h0 (rp (b::gs) hs).1) K f h) hi
    obtain ⟨Qo,hw,r3⟩:=acs r2
    obtain ⟨f',h',s1,s2⟩:=rest r3
    exact ⟨f',h',both r1 (s1.weaken hw),s2⟩
def re (S:Option Nat) (P:Program) (c:Code) (Q:Exit→Act→World→Prop) (a:Act) (w:World):Prop:=
 ∀(b:Frame) (k:List Item) (cs:List Frame),b.roundOf=S→
  ∃e a' w',Q e a' w'∧ArrivesIn (Machine.fenced P (FR S)) P (lone (b.atR a (.code c:: .inLoop c::k)) cs w) b k cs e a' w'
theorem FR.room (S:Option Nat) (n:Nat):(FR S).room n:=fun _ h=>by cases h
theorem re.wp {S:Option Nat} {c:Code} {Q:Exit→Act→World→Prop} {a:Act} {w:World} (h:re S P c Q a w):(Code.loop c).wpIn (FR S) 0 P Q a w:=by
 intro b k cs kN hb hr
 obtain ⟨e,a',w',q,r⟩:=h b k cs kN
 exact ⟨e,a',w',q,.of_steps (.one (fenced_calm hb hr rfl) stepR_loop) r⟩
theorem re.round {S:Option Nat} {c:Code} {Q:Exit→Act→World→Prop} {a:Act} {w:World} (h:c.wpIn (FR S) 0 P (Exit.then (re S P c Q) Q) a w):re S P c Q a w:=by
 intro b k cs kN
 have hb:(FR S).fn b.fn:=trivial
 have hr:(FR S).room (cs.length+1+0):=FR.room S _
 obtain ⟨e,yF,oN,hq,xu⟩:=h b (.inLoop c::k) cs kN hb hr
 cases e with
 | normal=>
  obtain ⟨avO,aqG,LJ,aw7,awn⟩:=hq b k cs kN
  exact ⟨avO,aqG,LJ,aw7,.of_steps (StepsIn.trans xu (.one (fenced_calm hb hr rfl) stepR_inLoop)) awn⟩
 | exit id=>exact ⟨_,yF,oN,hq,.pass (x:=.inLoop c) rfl (fun _ _=>.inl (by simp)) xu⟩
 | goto l=>exact ⟨_,yF,oN,hq,.pass (x:=.inLoop c) rfl (fun _ _=>.inl (by simp)) xu⟩
 | ret=>exact ⟨_,yF,oN,hq,.pass (x:=.inLoop c) rfl (fun _ _=>.inl (by simp)) xu⟩
 | panic ch=>exact ⟨_,yF,oN,hq,.pass (x:=.inLoop c) rfl (fun _ _=>.inl (by simp)) xu⟩
 | outgrown=>exact ⟨_,yF,oN,hq,.pass (x:=.inLoop c) rfl (fun _ _=>.inl (by simp)) xu⟩
theorem afD {l:List iT} (h:l.all (fun o=>leaves o.guard o.dst)=true):∀g m,(g,m)∈tZ l→∀o∈m,leaves g o.dst=true:=by
 intro g m hm o ho
 have rP:(⟨o.dst,o.op,g⟩:iT)∈oh (tZ l):=by
  generalize tZ l=gs at hm
  induction gs with
  | nil=>simp at hm
  | cons a gs ih=>
   obtain ⟨g',m'⟩:=a
   simp only [oh,List.mem_append]
   rcases mem_cons.1 hm with he | hm
   ·cases he
    left
    simp only [qD,mem_map]
    exact ⟨o,ho,rfl⟩
   ·exact .inr (ih hm)
 rw [IL] at rP
 rw [all_eq_true] at h
 exact h _ rP
def qw (P:Program) (N:Nat) (out:Bool) (c:Code) (f:Nat→Value) (h:ae) (e:Exit) (f':Nat→Value) (h':ae):Prop:=
 ∀S,(out=true→S=none)→∀B ρ a w,ee P N B ρ f h a w→re S P c (yr P N B ρ h w e f' h') a w
theorem re.mono {S:Option Nat} {c:Code} {Q Q':Exit→Act→World→Prop} {a:Act} {w:World} (h:re S P c Q a w) (hq:∀e a w,Q e a w→Q' e a w):re S P c Q' a w:=
 fun b k cs kN=>let ⟨e,a',w',q,r⟩:=h b k cs kN;⟨e,a',w',hq _ _ _ q,r⟩
theorem yr.trans {B:Nat} {ρ ny:aL} {h h₁ h':ae} {w oN:World} {e:Exit} {f':Nat→Value} (T:Tr ρ h w ny h₁ oN):∀e' a' w',yr P N B ny h₁ oN e f' h' e' a' w'→yr P N B ρ h w e f' h' e' a' w':=by
 rintro e' a' w' ⟨rfl,av,R,T'⟩
 exact ⟨rfl,av,R,T.trans T'⟩
variable {out : Bool}
theorem qw.next {c:Code} {f cV f':Nat→Value} {h h₁ h':ae} {e:Exit} (a:gR P N out c f h .normal cV h₁) (b:qw P N out c cV h₁ e f' h'):qw P N out c f h e f' h':=by
 intro S hS B ρ ac w R
 refine re.round (wpIn_mono (a S hS B ρ ac w R) ?_)
 rintro e' a' w' ⟨rfl,av,R',T⟩
 exact (b S hS B av a' w' R').mono (yr.trans T)
theorem qw.leave {c:Code} {f f':Nat→Value} {h h':ae} {e:Exit} (he:e≠ .normal) (a:gR P N out c f h e f' h'):qw P N out c f h e f' h':=by
 intro S hS B ρ ac w R
 refine re.round (wpIn_mono (a S hS B ρ ac w R) ?_)
 rintro e' a' w' ⟨rfl,av,R',T⟩
 cases e' <;> first | exact absurd rfl he | exact ⟨rfl,av,R',T⟩
theorem qw.run {c:Code} {f f':Nat→Value} {h h':ae} {e:Exit} (a:qw P N out c f h e f' h'):gR P N out (.loop c) f h e f' h':=fun S hS B ρ ac w R=>(a S hS B ρ ac w R).wp
theorem gR.seq {x y:Code} {f cV f':Nat→Value} {h h₁ h':ae} {e:Exit} (a:gR P N out x f h .normal cV h₁) (b:gR P N out y cV h₁ e f' h'):gR P N out (.seq x y) f h e f' h':=by
 intro S hS B ρ ac w R
 refine wpIn_seq (wpIn_mono (a S hS B ρ ac w R) ?_)
 rintro e' a' w' ⟨rfl,av,R',T⟩
 exact wpIn_mono (b S hS B av a' w' R') (yr.trans T)
theorem gR.aEo {x y:Code} {f f':Nat→Value} {h h':ae} {e:Exit} (he:e≠ .normal) (a:gR P N out x f h e f' h'):gR P N out (.seq x y) f h e f' h':=by
 intro S hS B ρ ac w R
 refine wpIn_seq (wpIn_mono (a S hS B ρ ac w R) ?_)
 rintro e' a' w' ⟨rfl,av,R',T⟩
 cases e' <;> first | exact absurd rfl he | exact ⟨rfl,av,R',T⟩
theorem gR.block {id:Nat} {c:Code} {f f':Nat→Value} {h h':ae} {e:Exit} (a:gR P N out c f h e f' h'):gR P N out (.block id c) f h (match e with | .exit i=>if i=id then .normal else .exit i | e=>e) f' h':=by
 intro S hS B ρ ac w R
 refine wpIn_block (wpIn_mono (a S hS B ρ ac w R) ?_)
 rintro e' a' w' ⟨rfl,av,R',T⟩
 cases e' with
 | exit i=>
  simp only [Exit.inBlock]
  split
  ·exact ⟨rfl,av,R',T⟩
  ·exact ⟨rfl,av,R',T⟩
 | _=>exact ⟨rfl,av,R',T⟩
theorem gR.cond {c:Operand} {x y:Code} {t:Bool} {f f':Nat→Value} {h h':ae} {e:Exit} (hc:jC c=true) (ht:ev f c=.bool t) (a:gR P N out (if t then x else y) f h e f' h'):gR P N out (.cond c x y) f h e f' h':=by
 intro S hS B ρ ac w R
 have:=R.ev hc
 rw [ht] at this
 exact wpIn_cond this.yJ (a S hS B ρ ac w R)
theorem gR.region {id:Nat} {ops:Array Oper} {f f':Nat→Value} {h h':ae} (a:gX P N ops (List.range ops.size) f h f' h'):gR P N out (.region id ops false) f h .normal f' h':=by
 intro S hS B ρ ac w R
 refine wpIn_region (a S B ρ ac w R _ ?_)
 intro av a' w' R' T
 exact ⟨rfl,av,R',T⟩
theorem qw.weaken {c:Code} {f cV f':Nat→Value} {h h':ae} {e:Exit} (hw:tJ cV f) (hr:qw P N out c cV h e f' h'):qw P N out c f h e f' h':=
 fun S hS B ρ a w R=>hr S hS B ρ a w (R.weaken hw)
end
end
section
inductive yy (ops:Array Oper):List Nat→List Nat→Prop
 | nil {S:List Nat}:(∀i,i<ops.size→i∈S)→yy ops S []
 | cons {S:List Nat} {i:Nat} {o:Oper} {l:List Nat}:ops[i]?=some o→i∉S→(∀e∈fq o,e∈S)→yy ops (i::S) l→yy ops S (i::l)
theorem GX:∀{ops:List Oper} {i:Nat},yH ops i=true→∀(k:Nat) (o:Oper),ops[k]?=some o→∀e∈fq o,e<i+k
 | [],i,_,k,o,hk=>by simp at hk
 | x::ops,i,h,k,o,hk=>by
  simp only [yH,and_eq_true,all_eq_true,decide_eq_true_eq] at h
  cases k with
  | zero=>simp at hk;subst hk;exact h.1
  | succ k=>
   intro e he
   have:=GX h.2 k o (by simpa using hk) e he
   omega
def ready (ops:Array Oper) (iC:Array Bool) (i:Nat):Bool:=
 !iC.getD i true&&((ops[i]?).map (·.after.all fun e=> !Region.binds .any e||iC.getD e.on false)).getD false
theorem awe (ops:Array Oper) (fuel t:Nat) (iC:Array Bool) (acc:List Nat):
  Region.linearise.go .any ops (fuel+1) t iC acc=
   match ((List.range ops.size).filter (ready ops iC))[t%((List.range ops.size).filter (ready ops iC)).length]? with
   | some i=>Region.linearise.go .any ops fuel (t / ((List.range ops.size).filter (ready ops iC)).length) (iC.setIfInBounds i true) (i::acc)
   | none=>acc.reverse:=by
 rw [Region.linearise.go]
 rfl
theorem alW {ops:Array Oper} {iC:Array Bool} {S:List Nat} (hl:iC.size=ops.size) (hS:∀i,i<ops.size→(iC.getD i false=true↔i∈S)) (hb:∀(k:Nat) (o:Oper),ops[k]?=some o→∀e∈fq o,e<k)
  {i:Nat} (hi:i<ops.size):ready ops iC i=true↔i∉S∧∀o,ops[i]?=some o→∀e∈fq o,e∈S:=by
 have ho:ops[i]?=some ops[i]:=by simp [hi]
 have e1:iC.getD i true=iC.getD i false:=by simp [Array.getD,hl,hi]
 unfold ready
 rw [e1,ho]
 simp only [map_some,getD_some,and_eq_true,Bool.not_eq_true',Option.some.injEq,forall_eq']
 have h1:iC.getD i false=false↔i∉S:=by
  rw [←hS i hi]
  cases iC.getD i false <;> simp
 rw [h1]
 refine and_congr_right fun _=>?_
 rw [Array.all_eq_true']
 constructor
 ·intro h e he
  have aD:=hb i _ ho e he
  unfold fq at he
  simp only [List.mem_filterMap] at he
  obtain ⟨x,hx,xP⟩:=he
  split at xP
  ·rename_i BA
   simp at xP
   subst xP
   have:=h x (by simpa using hx)
   simp only [or_eq_true,Bool.not_eq_true',BA] at this
   exact (hS _ (by omega)).1 (by simpa using this)
  ·cases xP
 ·intro h x hx
  cases BA:Region.binds .any x with
  | false=>simp
  | true=>
   have hm:x.on∈fq ops[i]:=by
    unfold fq
    simp only [List.mem_filterMap]
    exact ⟨x,by simpa using hx,by simp [BA]⟩
   have aD:=hb i _ ho _ hm
   simp [(hS x.on (by omega)).2 (h _ hm)]
theorem J3:∀{l m:List Nat},l.Nodup→l ⊆ m→l.length≤m.length
 | [],m,_,_=>by simp
 | x::l,m,hd,hs=>by
  have hx:x∈m:=hs (by simp)
  rw [nodup_cons] at hd
  have h1:l ⊆ m.erase x:=by
   intro y hy
   have bk:y≠x:=by rintro rfl;exact hd.1 hy
   exact (List.mem_erase_of_ne bk).2 (hs (by simp [hy]))
  have h2:=J3 hd.2 h1
  rw [List.length_erase_of_mem hx] at h2
  have:0<m.length:=List.length_pos_of_mem hx
  simp
  omega
theorem auw {n:Nat} {S:List Nat} (hlen:S.length<n):∃i,i<n∧i∉S∧∀k,k<i→k∈S:=by
 have hex:∃i,i<n∧i∉S:=by
  apply byContradiction
  intro dC
  have fJ:∀i,i<n→i∈S:=fun i hi=>byContradiction fun h=>dC ⟨i,hi,h⟩
  have rT:List.range n ⊆ S:=fun i hi=>fJ i (mem_range.1 hi)
  have:=J3 (List.nodup_range (n:=n)) rT
  simp at this
  omega
 have key:∀m,(∃i,i<m∧i<n∧i∉S)→∃i,i<n∧i∉S∧∀k,k<i→k∈S:=by
  intro m
  induction m with
  | zero=>rintro ⟨i,h,_⟩;omega
  | succ m ih=>
   rintro ⟨i,h1,h2,h3⟩
   by_cases eD:∃i,i<m∧i<n∧i∉S
   ·exact ih eD
   ·have dY:i=m:=by
     by_cases e:i=m
     ·exact e
     ·exact absurd ⟨i,by omega,h2,h3⟩ eD
    subst dY
    refine ⟨i,h2,h3,fun k hk=>byContradiction fun Es=>eD ⟨k,hk,by omega,Es⟩⟩
 obtain ⟨i,h1,h2⟩:=hex
 exact key n ⟨i,h1,h1,h2⟩
theorem ado {ops:Array Oper} (hb:∀(k:Nat) (o:Oper),ops[k]?=some o→∀e∈fq o,e<k):∀(fuel t:Nat) (iC:Array Bool) (acc:List Nat),iC.size=ops.size→
  (∀i,i<ops.size→(iC.getD i false=true↔i∈acc))→acc.Nodup→(∀i∈acc,i<ops.size)→acc.length+fuel=ops.size→
  ∃l,Region.linearise.go .any ops fuel t iC acc=acc.reverse++l∧yy ops acc l
 | 0,t,iC,acc,hl,hS,hd,aD,hf=>by
  refine ⟨[],by simp [Region.linearise.go],.nil ?_⟩
  intro i hi
  apply byContradiction
  intro h
  have rT:(i::acc) ⊆ List.range ops.size:=by
   intro x hx
   rcases mem_cons.1 hx with rfl | hx
   ·simpa using hi
   ·simpa using aD x hx
  have:=J3 (nodup_cons.2 ⟨h,hd⟩) rT
  simp at this
  omega
 | fuel+1,t,iC,acc,hl,hS,hd,aD,hf=>by
  rw [awe]
  obtain ⟨i0,BN,awF,awE⟩:=auw (n:=ops.size) (S:=acc) (by omega)
  have sZ:ready ops iC i0=true:=(alW hl hS hb BN).2 ⟨awF,fun o ho e he=>awE e (hb i0 o ho e he)⟩
  have iJ:0<((List.range ops.size).filter (ready ops iC)).length:=List.length_pos_of_mem (mem_filter.2 ⟨mem_range.2 BN,sZ⟩)
  have bT:∃i,((List.range ops.size).filter (ready ops iC))[t%((List.range ops.size).filter (ready ops iC)).length]?=some i:=⟨_,getElem?_eq_getElem (Nat.mod_lt _ iJ)⟩
  obtain ⟨i,hi⟩:=bT
  rw [hi]
  have rP:=mem_of_getElem? hi
  simp only [mem_filter,mem_range] at rP
  obtain ⟨iW,axg⟩:=rP
  obtain ⟨vT,zw⟩:=(alW hl hS hb iW).1 axg
  obtain ⟨l,h1,h2⟩:=ado hb fuel (t / ((List.range ops.size).filter (ready ops iC)).length) (iC.setIfInBounds i true) (i::acc) (by simpa using hl) (by
   intro k hk
   by_cases e:k=i
   ·subst e;simp [Array.getD,hl,hk]
   ·have:(iC.setIfInBounds i true).getD k false=iC.getD k false:=by
     simp only [Array.getD_eq_getD_getElem?,Array.getElem?_setIfInBounds]
     rw [if_neg (Ne.symm e)]
    rw [this,hS k hk]
    simp [e]) (nodup_cons.2 ⟨vT,hd⟩) (by
   intro k hk
   rcases mem_cons.1 hk with rfl | hk
   ·exact iW
   ·exact aD k hk) (by simp;omega)
  refine ⟨i::l,by simp only [h1];simp,?_⟩
  exact .cons (o:=ops[i]) (by simp [iW]) vT (zw _ (by simp [iW])) h2
theorem afF {ops:Array Oper} (hb:yH ops.toList 0=true) (t:Nat):yy ops [] (Region.linearise .any ops t):=by
 have kI:∀(k:Nat) (o:Oper),ops[k]?=some o→∀e∈fq o,e<k:=by
  intro k o hk e he
  have:=GX hb k o (by simpa using hk) e he
  omega
 obtain ⟨l,h1,h2⟩:=ado kI ops.size t (replicate ops.size false) [] (by simp) (by intro i hi;simp [Array.getD,hi]) .nil (by simp) (by simp)
 have:Region.linearise .any ops t=l:=by
  unfold Region.linearise
  rw [h1]
  simp
 rw [this]
 exact h2
end
section
theorem P7 {f f':Nat→Value}:∀{l:List Operand},(∀t∈tmpsOf l,f t=f' t)→∀x∈l,ev f x=ev f' x
 | [],_,x,hx=>by simp at hx
 | y::l,h,x,hx=>by
  have h':∀t∈tmpsOf l,f t=f' t:=by
   intro t ht
   apply h
   cases y <;> simp [tmpsOf,ht]
  rcases mem_cons.1 hx with rfl | hx
  ·cases x with
   | tmp t=>exact h t (by simp [tmpsOf])
   | _=>rfl
  ·exact P7 h' x hx
theorem E7 {g g':Operand→Value} {xs:List Operand} (h:∀x∈xs,g x=g' x):xs.map g=xs.map g':=List.map_congr_left h
theorem Kb {g g':Operand→Value} {x:Option Operand} (h:∀y∈x.toList,g y=g' y):x.map g=x.map g':=by
 cases x with
 | none=>rfl
 | some y=>simp [h y (by simp)]
theorem KK {g g':Operand→Value} {ps:List (Nat×Nat×Operand)} (h:∀x∈ps.map (·.2.2),g x=g' x):(ps.map fun (o,s,x)=>(o,s,g x))=ps.map fun (o,s,x)=>(o,s,g' x):=by
 apply List.map_congr_left
 rintro ⟨o,s,x⟩ hx
 simp [h x (by simp;exact ⟨o,s,hx⟩)]
theorem axW {o:qy} {g g':Operand→Value} (h:∀x∈o.iu,g x=g' x):jB o g=jB o g':=by
 cases o with
 | E8 mx xs=>
  simp only [jB]
  rw [E7 (xs:=xs) h]
 | Lg x lo hi=>
  simp only [jB,qy.iu] at*
  rw [h x (by simp),Kb (x:=lo) (fun y hy=>h y (by simp at hy⊢;exact .inr (.inl hy))),Kb (x:=hi) (fun y hy=>h y (by simp at hy⊢;exact .inr (.inr hy)))]
 | Lh e s x lo hi=>
  simp only [jB,qy.iu] at*
  rw [h x (by simp),Kb (x:=lo) (fun y hy=>h y (by simp at hy⊢;exact .inr (.inl hy))),Kb (x:=hi) (fun y hy=>h y (by simp at hy⊢;exact .inr (.inr hy)))]
 | fn f first captured=>
  simp only [jB,qy.iu] at*
  rw [E7 (xs:=first) (fun x hx=>h x (by simp [hx])),E7 (xs:=captured) (fun x hx=>h x (by simp [hx]))]
 | build zero parts=>
  simp only [jB]
  rw [KK (ps:=parts) h]
 | _=>simp [qy.iu] at h;simp [jB,h]
theorem axT {o:pH} {g g':Operand→Value} (h:∀x∈o.iu,g x=g' x) (H:ae):fC o g H=fC o g' H:=by
 cases o <;> simp [pH.iu] at h <;> simp [fC,h]
theorem axQ {o:pE} {g g':Operand→Value} (h:∀x∈o.iu,g x=g' x) (H:ae):gj o g H=gj o g' H:=by
 cases o with
 | nP e n zs ps=>
  simp only [gj]
  rw [KK (ps:=ps) h]
 | fl a=>
  cases a with
  | nP e n zs ps=>
   simp only [gj]
   rw [KK (ps:=ps) h]
  | _=>simp [pE.iu,mM.iu] at h;simp [gj,h]
 | _=>simp [pE.iu] at h;simp [gj,h]
theorem Lm {P:Program} {io:gW} {f f':Nat→Value} {h:ae} {K:Value→ae→Prop} (hf:∀t∈tmpsOf io.iu,f t=f' t):dd P io f h K↔dd P io f' h K:=by
 have he:=P7 hf
 cases io with
 | p o=>simp only [dd];rw [axW he]
 | l o=>simp only [dd];rw [axT he]
 | e o=>simp only [dd];rw [axQ he]
 | call g args=>
  simp only [dd]
  rw [E7 (xs:=args) he]
 | kY x args=>simp only [dd];rw [he x (by simp [gW.iu]),E7 (xs:=args) (fun y hy=>he y (by simp [gW.iu,hy]))]
structure Trace (P:Program) (l:List cU) (j0:Nat) (F:Nat→Nat→Value) (H:Nat→ae) (V:Nat→Value):Prop where
 ye:∀k o,l[k]?=some o→F (j0+k+1)=dG (F (j0+k)) o.op.dst (V (j0+k))
 QA:∀k o,l[k]?=some o→sP o.op.guard (F (j0+k))
 yes:∀k o,l[k]?=some o→iO o.op.guard (F (j0+k))=true→dd P o.op.op (F (j0+k)) (H (j0+k)) fun v h'=>v=V (j0+k)∧h'=H (j0+k+1)
 no:∀k o,l[k]?=some o→iO o.op.guard (F (j0+k))=false→V (j0+k)=undef∧H (j0+k+1)=H (j0+k)
 UF:∀e oe k ok lo,l[e]?=some oe→oe.op.op.dF=true→l[k]?=some ok→ok.op.op=.l lo→iO ok.op.guard (F (j0+k))=true→e<k→ok.pre.testBit (j0+e)=false→
  fC lo (ev (F (j0+k))) (H (j0+e))=some (V (j0+k))
 Qn:∀k ok lo e oe,l[k]?=some ok→ok.op.op=.l lo→iO ok.op.guard (F (j0+k))=true→l[e]?=some oe→oe.op.op.dF=true→k<e→oe.pre.testBit (j0+k)=false→
  fC lo (ev (F (j0+k))) (H (j0+e+1))=some (V (j0+k))
 flo:∀k ok a,l[k]?=some ok→ok.op.op=.e (.fl a)→iO ok.op.guard (F (j0+k))=true→∃u,eL (H (j0+k+1)) (V (j0+k))=some u∧
  ∀e oe,l[e]?=some oe→oe.op.op.dF=true→k<e→oe.pre.testBit (j0+k)=false→eL (H (j0+e+1)) (V (j0+k))=some u
theorem PH {pre:Nat} {lo:pH} {f:Nat→Value} {v:Value}:∀{hs:List (Nat×ae)},xa pre lo f v hs→∀e H,(e,H)∈hs→pre.testBit e=false→fC lo (ev f) H=some v
 | [],_,e,H,hm,_=>by simp at hm
 | (e',H')::r,h,e,H,hm,hp=>by
  simp only [xa] at h
  rcases mem_cons.1 hm with hq | hm
  ·cases hq
   rw [if_neg (by rw [hp];simp)] at h
   exact h.1
  ·split at h
   ·exact PH h e H hm hp
   ·exact PH h.2 e H hm hp
theorem DI {pre:Nat} {H:ae}:∀{ls:eK},lM pre H ls→∀j lo f v,(j,lo,f,v)∈ls→pre.testBit j=false→fC lo (ev f) H=some v
 | [],_,j,lo,f,v,hm,_=>by simp at hm
 | (j',py,f',v')::r,h,j,lo,f,v,hm,hp=>by
  simp only [lM] at h
  rcases mem_cons.1 hm with hq | hm
  ·cases hq
   rw [if_neg (by rw [hp];simp)] at h
   exact h.1
  ·split at h
   ·exact DI h j lo f v hm hp
   ·exact DI h.2 j lo f v hm hp
def Dm (P:Program) (l:List cU) (j:Nat) (aN:List (Nat×ae)) (aJ:eK) (K:(Nat→Value)→ae→Prop) (f:Nat→Value) (h:ae):Prop:=
 ∃F H V,F j=f∧H j=h∧K (F (j+l.length)) (H (j+l.length))∧Trace P l j F H V∧
  (∀e Hh,(e,Hh)∈aN→∀k ok lo,l[k]?=some ok→ok.op.op=.l lo→iO ok.op.guard (F (j+k))=true→ok.pre.testBit e=false→fC lo (ev (F (j+k))) Hh=some (V (j+k)))∧
  (∀i lo ff v,(i,lo,ff,v)∈aJ→∀e oe,l[e]?=some oe→oe.op.op.dF=true→oe.pre.testBit i=false→fC lo (ev ff) (H (j+e+1))=some v)
theorem R7 {P:Program}:∀{l:List cU} {j:Nat} {aN:List (Nat×ae)} {aJ:eK} {K:(Nat→Value)→ae→Prop} {f:Nat→Value} {h:ae},lB P l j aN aJ K f h→Dm P l j aN aJ K f h
 | [],j,aN,aJ,K,f,h,hi=>
  ⟨fun _=>f,fun _=>h,fun _=>undef,rfl,rfl,hi,⟨fun k o hk=>by simp at hk,fun k o hk=>by simp at hk,fun k o hk=>by simp at hk,fun k o hk=>by simp at hk,fun e oe k ok lo hk=>by simp at hk,fun k ok lo e oe hk=>by simp at hk,fun k ok a hk=>by simp at hk⟩,
   fun e Hh hm k ok lo hk=>by simp at hk,fun i lo ff v hm e oe hk=>by simp at hk⟩
 | o::os,j,aN,aJ,K,f,h,hi=>by
  -- gN rest,and how gN first step is laid ahead of it
  have key:∀(v:Value) (h':ae) (pS:List (Nat×ae)) (pz:eK),sP o.op.guard f→lB P os (j+1) pS pz K (dG f o.op.dst v) h'→
    (∀p∈aN,p∈pS)→(∀p∈aJ,p∈pz)→(o.op.op.dF=true→(j,h)∈pS)→(∀lo,o.op.op=.l lo→iO o.op.guard f=true→(j,lo,f,v)∈pz)→
    (iO o.op.guard f=true→dd P o.op.op f h fun u g=>u=v∧g=h')→(iO o.op.guard f=false→v=undef∧h'=h)→
    (∀lo,o.op.op=.l lo→iO o.op.guard f=true→∀e Hh,(e,Hh)∈aN→o.pre.testBit e=false→fC lo (ev f) Hh=some v)→
    (o.op.op.dF=true→∀i lo ff u,(i,lo,ff,u)∈aJ→o.pre.testBit i=false→fC lo (ev ff) h'=some u)→
    (∀a,o.op.op=.e (.fl a)→iO o.op.guard f=true→∃u,eL h' v=some u∧(j,.obj (.const v),f,u)∈pz)→
    Dm P (o::os) j aN aJ K f h:=by
   intro v h' pS pz kK Ru hh hl hE hL hy hn hp hf qH
   obtain ⟨F,H,V,f1,f2,f3,T,fp,ff⟩:=R7 Ru
   have Kd:∀{α:Type} (x:α) (G:Nat→α),∃G2:Nat→α,G2 j=x∧(∀k,G2 (j+k+1)=G (j+1+k))∧∀k,G2 (j+(k+1))=G (j+1+k):=by
    intro α x G
    refine ⟨fun k=>if k=j then x else G k,by simp,fun k=>?_,fun k=>?_⟩
    ·show (if j+k+1=j then x else G (j+k+1))=_
     rw [if_neg (by omega)]
     congr 1
     omega
    ·show (if j+(k+1)=j then x else G (j+(k+1)))=_
     rw [if_neg (by omega)]
     congr 1
     omega
   obtain ⟨F2,vC,eF1,eF⟩:=Kd f F
   obtain ⟨H2,IC,xj,eH⟩:=Kd h H
   obtain ⟨V2,yQ,eV1,eV⟩:=Kd v V
   have avq:F2 (j+1)=F (j+1):=eF1 0
   have ID:H2 (j+1)=H (j+1):=xj 0
   refine ⟨F2,H2,V2,vC,IC,?_,?_,?_,?_⟩
   ·rw [length_cons,eF,eH]
    exact f3
   ·constructor
    ·intro k ok hk
     cases k with
     | zero=>
      simp at hk;subst hk
      simp only [add_zero]
      rw [avq,vC,yQ]
      exact f1
     | succ k=>
      have:=T.ye k ok (by simpa using hk)
      rw [eF1,eF,eV,show j+1+(k+1)=j+1+k+1 by omega]
      exact this
    ·intro k ok hk
     cases k with
     | zero=>
      simp at hk;subst hk
      simp only [add_zero]
      rw [vC]
      exact kK
     | succ k=>
      rw [eF]
      exact T.QA k ok (by simpa using hk)
    ·intro k ok hk hw
     cases k with
     | zero=>
      simp at hk;subst hk
      simp only [add_zero] at hw⊢
      rw [vC] at hw
      rw [ID,vC,IC,yQ,f2]
      exact hy hw
     | succ k=>
      rw [eF] at hw
      rw [xj,eF,eH,eV,show j+1+(k+1)=j+1+k+1 by omega]
      exact T.yes k ok (by simpa using hk) hw
    ·intro k ok hk hw
     cases k with
     | zero=>
      simp at hk;subst hk
      simp only [add_zero] at hw⊢
      rw [vC] at hw
      rw [ID,IC,yQ,f2]
      exact hn hw
     | succ k=>
      rw [eF] at hw
      rw [xj,eH,eV,show j+1+(k+1)=j+1+k+1 by omega]
      exact T.no k ok (by simpa using hk) hw
    ·intro e oe k ok lo he fT hk eD hw aD hY
     cases k with
     | zero=>omega
     | succ k=>
      rw [eF] at hw⊢
      rw [eV]
      cases e with
      | zero=>
       simp at he;subst he
       simp only [add_zero] at hY⊢
       rw [IC]
       exact fp j h (hE fT) k ok lo (by simpa using hk) eD hw hY
      | succ e=>
       rw [eH]
       rw [show j+(e+1)=j+1+e by omega] at hY
       exact T.UF e oe k ok lo (by simpa using he) fT (by simpa using hk) eD hw (by omega) hY
    ·intro k ok lo e oe hk eD hw he fT aD hY
     cases e with
     | zero=>omega
     | succ e=>
      rw [xj,show j+1+(e+1)=j+1+e+1 by omega]
      cases k with
      | zero=>
       simp at hk;subst hk
       simp only [add_zero] at hw hY⊢
       rw [vC] at hw⊢
       rw [yQ]
       exact ff j lo f v (hL lo eD hw) e oe (by simpa using he) fT hY
      | succ k=>
       rw [eF] at hw⊢
       rw [eV]
       rw [show j+(k+1)=j+1+k by omega] at hY
       exact T.Qn k ok lo e oe (by simpa using hk) eD hw (by simpa using he) fT (by omega) hY
    ·intro k ok a hk cZ hw
     cases k with
     | zero=>
      simp at hk;subst hk
      simp only [add_zero] at hw⊢
      rw [vC] at hw
      obtain ⟨u,u1,u2⟩:=qH a cZ hw
      refine ⟨u,by rw [ID,yQ,f2];exact u1,?_⟩
      intro e oe he fT aD hY
      cases e with
      | zero=>omega
      | succ e=>
       rw [xj,show j+1+(e+1)=j+1+e+1 by omega,yQ]
       exact ff j (.obj (.const v)) f u u2 e oe (by simpa using he) fT hY
     | succ k=>
      rw [eF] at hw
      obtain ⟨u,u1,u2⟩:=T.flo k ok a (by simpa using hk) cZ hw
      refine ⟨u,by rw [xj,eV,show j+1+(k+1)=j+1+k+1 by omega];exact u1,?_⟩
      intro e oe he fT aD hY
      cases e with
      | zero=>omega
      | succ e=>
       rw [xj,show j+1+(e+1)=j+1+e+1 by omega,eV]
       rw [show j+(k+1)=j+1+k by omega] at hY
       exact u2 e oe (by simpa using he) fT (by omega) hY
   ·intro e Hh hm k ok lo hk eD hw hY
    cases k with
    | zero=>
     simp at hk;subst hk
     simp only [add_zero] at hw⊢
     rw [vC] at hw⊢
     rw [yQ]
     exact hp lo eD hw e Hh hm hY
    | succ k=>
     rw [eF] at hw⊢
     rw [eV]
     exact fp e Hh (hh _ hm) k ok lo (by simpa using hk) eD hw hY
   ·intro i lo ff' u hm e oe he fT hY
    cases e with
    | zero=>
     simp at he;subst he
     simp only [add_zero]
     rw [ID,f2]
     exact hf fT i lo ff' u hm hY
    | succ e=>
     rw [xj,show j+1+(e+1)=j+1+e+1 by omega]
     exact ff i lo ff' u (hl _ hm) e oe (by simpa using he) fT hY
  have go:sP o.op.guard f→iO o.op.guard f=true→kZ P o.op.op o.pre j aN aJ f h (fun aN aJ v h'=>lB P os (j+1) aN aJ K (dG f o.op.dst v) h')→Dm P (o::os) j aN aJ K f h:=fun kK hw hd=>by
   have P2:o.op.op.dF=true→(∀a,o.op.op≠ .e (.fl a))→dd P o.op.op f h (fun v h'=>lM o.pre h' aJ∧lB P os (j+1) (aN++[(j,h)]) aJ K (dG f o.op.dst v) h')→Dm P (o::os) j aN aJ K f h:=fun hE rQ hs=>by
    have zI:∀lo,o.op.op≠ .l lo:=by intro lo e;rw [e] at hE;cases hE
    have ex:∃v h',dd P o.op.op f h (fun u g=>u=v∧g=h')∧lM o.pre h' aJ∧lB P os (j+1) (aN++[(j,h)]) aJ K (dG f o.op.dst v) h':=by
     generalize o.op.op=io at hs⊢
     cases io with
     | p po=>
      simp only [dd,fD] at hs⊢
      split at hs
      ·exact ⟨_,_,⟨rfl,rfl⟩,hs⟩
      ·exact hs.elim
     | l lo=>
      simp only [dd,fD] at hs⊢
      split at hs
      ·exact ⟨_,_,⟨rfl,rfl⟩,hs⟩
      ·exact hs.elim
     | e eo=>
      simp only [dd,nQ] at hs⊢
      split at hs
      ·exact ⟨_,_,⟨rfl,rfl⟩,hs⟩
      ·exact hs.elim
     | call g args=>
      obtain ⟨v,h',hc,hk⟩:=hs
      exact ⟨v,h',⟨v,h',hc,rfl,rfl⟩,hk⟩
     | kY x args=>
      simp only [dd,tQ] at hs⊢
      split at hs
      ·obtain ⟨mV,v,h',hc,hk⟩:=hs
       exact ⟨v,h',⟨mV,v,h',hc,rfl,rfl⟩,hk⟩
      ·obtain ⟨mV,v,h',hc,hk⟩:=hs
       exact ⟨v,h',⟨mV,v,h',hc,rfl,rfl⟩,hk⟩
      ·exact hs.elim
    obtain ⟨v,h',s1,s2,s3⟩:=ex
    exact key v h' _ _ kK s3 (fun p hp=>by simp [hp]) (fun p hp=>hp) (fun _=>by simp) (fun lo e=>absurd e (zI lo)) (fun _=>s1) (fun hf=>by rw [hw] at hf;cases hf) (fun lo e=>absurd e (zI lo))
     (fun _ i lo ff u hm hY=>DI s2 i lo ff u hm hY) (fun a e=>absurd e (rQ a))
   cases cZ:o.op.op with
   | p po=>
    rw [cZ] at hd
    simp only [kZ,fD] at hd
    split at hd
    ·rename_i v hv
     exact key v h _ _ kK hd (fun p hp=>hp) (fun p hp=>hp) (fun hE=>by rw [cZ] at hE;cases hE) (fun lo e=>by rw [cZ] at e;cases e) (fun _=>by rw [cZ];simp [dd,fD,hv]) (fun hf=>by rw [hw] at hf;cases hf)
      (fun lo e=>by rw [cZ] at e;cases e) (fun hE=>by rw [cZ] at hE;cases hE) (fun a e=>by rw [cZ] at e;cases e)
    ·exact hd.elim
   | l lo=>
    rw [cZ] at hd
    simp only [kZ,fD] at hd
    split at hd
    ·rename_i v hv
     exact key v h _ _ kK hd.2 (fun p hp=>hp) (fun p hp=>by simp [hp]) (fun hE=>by rw [cZ] at hE;cases hE) (fun py e _=>by rw [cZ] at e;cases e;simp) (fun _=>by rw [cZ];simp [dd,fD,hv]) (fun hf=>by rw [hw] at hf;cases hf)
      (fun py e _ e' Hh hm hY=>by rw [cZ] at e;cases e;exact PH hd.1 e' Hh hm hY) (fun hE=>by rw [cZ] at hE;cases hE) (fun a e=>by rw [cZ] at e;cases e)
    ·exact hd.elim
   | e eo=>
    cases eo with
    | fl a=>
     rw [cZ] at hd
     simp only [kZ,nQ] at hd
     split at hd
     ·rename_i v h' hv
      simp only [fD] at hd
      split at hd
      ·rename_i u hu
       exact key v h' _ _ kK hd.2 (fun p hp=>by simp [hp]) (fun p hp=>by simp [hp]) (fun _=>by simp) (fun lo e=>by rw [cZ] at e;cases e) (fun _=>by rw [cZ];simp [dd,nQ,hv]) (fun hf=>by rw [hw] at hf;cases hf)
        (fun lo e=>by rw [cZ] at e;cases e) (fun _ i lo ff u hm hY=>DI hd.1 i lo ff u hm hY) (fun a' _ _=>⟨u,hu,by simp⟩)
      ·exact hd.elim
     ·exact hd.elim
    | _=>exact P2 (by rw [cZ];rfl) (fun a e=>by rw [cZ] at e;cases e) (by rw [cZ] at hd⊢;exact hd)
   | call g args=>exact P2 (by rw [cZ];rfl) (fun a e=>by rw [cZ] at e;cases e) (by rw [cZ] at hd⊢;exact hd)
   | kY x args=>exact P2 (by rw [cZ];rfl) (fun a e=>by rw [cZ] at e;cases e) (by rw [cZ] at hd⊢;exact hd)
  have skip:sP o.op.guard f→iO o.op.guard f=false→xf o.op.op o.pre j aN aJ h (fun aN aJ v h'=>lB P os (j+1) aN aJ K (dG f o.op.dst v) h')→Dm P (o::os) j aN aJ K f h:=fun kK hw hd=>by
   unfold xf at hd
   split at hd
   ·rename_i hE
    exact key undef h _ _ kK hd (fun p hp=>hp) (fun p hp=>hp) (fun fT=>by rw [hE] at fT;cases fT) (fun lo _ hf=>by rw [hw] at hf;cases hf) (fun hf=>by rw [hw] at hf;cases hf) (fun _=>⟨rfl,rfl⟩)
     (fun lo _ hf=>by rw [hw] at hf;cases hf) (fun fT=>by rw [hE] at fT;cases fT) (fun a _ hf=>by rw [hw] at hf;cases hf)
   ·rename_i hE
    exact key undef h _ _ kK hd.2 (fun p hp=>by simp [hp]) (fun p hp=>hp) (fun _=>by simp) (fun lo _ hf=>by rw [hw] at hf;cases hf) (fun hf=>by rw [hw] at hf;cases hf) (fun _=>⟨rfl,rfl⟩)
     (fun lo _ hf=>by rw [hw] at hf;cases hf) (fun _ i lo ff u hm hY=>DI hd.1 i lo ff u hm hY) (fun a _ hf=>by rw [hw] at hf;cases hf)
  simp only [lB] at hi
  split at hi
  ·rename_i kL
   exact go (by rw [kL];trivial) (by rw [kL];rfl) hi
  ·rename_i s b kL
   obtain ⟨e1,e2⟩:=IW hi
   rcases e2 with ⟨e2,e3⟩ | ⟨e2,e3⟩
   ·exact go (by rw [kL];exact e1) (by rw [kL];exact e2) e3
   ·exact skip (by rw [kL];exact e1) (by rw [kL];exact e2) e3
def tU (g:Option (Nat×Bool)) (l:List kh):List cU:=l.map fun o=>⟨⟨o.dst,o.op,g⟩,o.pre⟩
def tV:List (Option (Nat×Bool)×List kh)→List cU
 | []=>[]
 | (g,l)::gs=>tU g l++tV gs
theorem Is:∀os:List cU,tV (xe os)=os
 | []=>rfl
 | o::os=>by
  have ih:=Is os
  simp only [xe]
  cases hg:xe os with
  | nil=>
   rw [hg] at ih
   simp only [tV] at ih
   subst ih
   simp [tV,tU]
  | cons a gs=>
   obtain ⟨g,l⟩:=a
   rw [hg] at ih
   simp only
   split
   ·rename_i he
    simp only [tV,tU,map_cons,cons_append] at ih⊢
    rw [ih,←he]
   ·simp only [tV,tU,map_cons,List.map_nil,cons_append,List.nil_append] at ih⊢
    rw [ih]
theorem acE {l:List cU} (h:l.all (fun o=>leaves o.op.guard o.op.dst)=true):∀g m,(g,m)∈xe l→∀o∈m,leaves g o.dst=true:=by
 intro g m hm o ho
 have rP:(⟨⟨o.dst,o.op,g⟩,o.pre⟩:cU)∈tV (xe l):=by
  generalize xe l=gs at hm
  induction gs with
  | nil=>simp at hm
  | cons a gs ih=>
   obtain ⟨g',m'⟩:=a
   simp only [tV,List.mem_append]
   rcases mem_cons.1 hm with he | hm
   ·cases he
    left
    simp only [tU,mem_map]
    exact ⟨o,ho,rfl⟩
   ·exact .inr (ih hm)
 rw [Is] at rP
 rw [all_eq_true] at h
 exact h _ rP
theorem acK {P:Program} {io:gW} {pre j:Nat} {aN:List (Nat×ae)} {aJ:eK} {f:Nat→Value} {h:ae} {K K':List (Nat×ae)→eK→Value→ae→Prop} (hm:∀a b v h,K a b v h→K' a b v h)
  (hs:kZ P io pre j aN aJ f h K):kZ P io pre j aN aJ f h K':=by
 cases io with
 | p po=>simp only [kZ,fD] at hs⊢;split at hs <;> first | exact hm _ _ _ _ hs | exact hs.elim
 | l lo=>simp only [kZ,fD] at hs⊢;split at hs <;> first | exact ⟨hs.1,hm _ _ _ _ hs.2⟩ | exact hs.elim
 | e eo=>
  cases eo with
  | fl a=>
   simp only [kZ,nQ,fD] at hs⊢
   split at hs
   ·split at hs <;> first | exact ⟨hs.1,hm _ _ _ _ hs.2⟩ | exact hs.elim
   ·exact hs.elim
  | _=>simp only [kZ,nQ] at hs⊢;split at hs <;> first | exact ⟨hs.1,hm _ _ _ _ hs.2⟩ | exact hs.elim
 | call g args=>exact se.mono hs fun v h hk=>⟨hk.1,hm _ _ _ _ hk.2⟩
 | kY x args=>simp only [kZ,tQ] at hs⊢;split at hs <;> first | exact ⟨hs.1,hs.2.mono fun v h hk=>⟨hk.1,hm _ _ _ _ hk.2⟩⟩ | exact hs.elim
theorem acJ {io:gW} {pre j:Nat} {aN:List (Nat×ae)} {aJ:eK} {h:ae} {K K':List (Nat×ae)→eK→Value→ae→Prop} (hm:∀a b v h,K a b v h→K' a b v h)
  (hs:xf io pre j aN aJ h K):xf io pre j aN aJ h K':=by
 unfold xf at hs⊢
 split at hs
 ·exact hm _ _ _ _ hs
 ·exact ⟨hs.1,hm _ _ _ _ hs.2⟩
theorem VQ {f:Nat→Value} {d:Option Nat} {s:Nat} (hd:d≠some s) (v:Value):dG f d v s=f s:=by
 cases ho:d with
 | none=>rfl
 | some x=>
  have:s≠x:=by rintro rfl;exact hd ho
  simp [dG,tH,this]
theorem adj {P:Program} {g:Option (Nat×Bool)} {r:List cU} {K:(Nat→Value)→ae→Prop}:∀{l:List kh} {j:Nat} {aN:List (Nat×ae)} {aJ:eK} {f:Nat→Value} {h:ae},(∀o∈l,leaves g o.dst=true)→
  (∀s b,g=some (s,b)→wj (f s)=false∧qY (f s) b=true)→
  pb P l j aN aJ (fun aN aJ f h=>lB P r (j+l.length) aN aJ K f h) f h→lB P (tU g l++r) j aN aJ K f h:=by
 intro l
 induction l with
 | nil=>intro j aN aJ f h _ _ hk;exact hk
 | cons o l ih=>
  intro j aN aJ f h hl hg hk
  simp only [pb] at hk
  simp only [tU,map_cons,cons_append,lB]
  have step:kZ P o.op o.pre j aN aJ f h fun aN aJ v h'=>lB P (tU g l++r) (j+1) aN aJ K (dG f o.dst v) h':=by
   refine acK (fun a b v h' b9=>?_) hk
   refine ih (fun o' dL=>hl o' (by simp [dL])) ?_ ?_
   ·intro s bb hs
    have hd:o.dst≠some s:=by have:=hl o (by simp);rw [hs] at this;simpa [leaves] using this
    rw [VQ hd]
    exact hg s bb hs
   ·rw [length_cons] at b9
    rw [show j+1+l.length=j+(l.length+1) by omega]
    exact b9
  cases kL:g with
  | none=>rw [kL] at step;exact step
  | some sb=>
   obtain ⟨s,b⟩:=sb
   obtain ⟨e1,e2⟩:=hg s b kL
   rw [kL] at step
   exact QF e1 (fun _=>step) (fun h=>by rw [e2] at h;cases h)
theorem av9 {P:Program} {s:Nat} {b:Bool} {r:List cU} {K:(Nat→Value)→ae→Prop}:∀{l:List kh} {j:Nat} {aN:List (Nat×ae)} {aJ:eK} {f:Nat→Value} {h:ae},(∀o∈l,leaves (some (s,b)) o.dst=true)→
  wj (f s)=false→qY (f s) b=false→
  vF l j aN aJ (fun aN aJ f h=>lB P r (j+l.length) aN aJ K f h) f h→lB P (tU (some (s,b)) l++r) j aN aJ K f h:=by
 intro l
 induction l with
 | nil=>intro j aN aJ f h _ _ _ hk;exact hk
 | cons o l ih=>
  intro j aN aJ f h hl e1 e2 hk
  simp only [vF] at hk
  simp only [tU,map_cons,cons_append,lB]
  refine QF e1 (fun h=>by rw [e2] at h;cases h) (fun _=>?_)
  refine acJ (fun a c v h' b9=>?_) hk
  have hd:o.dst≠some s:=by have:=hl o (by simp);simpa [leaves] using this
  refine ih (fun o' dL=>hl o' (by simp [dL])) (by rw [VQ hd];exact e1) (by rw [VQ hd];exact e2) ?_
  rw [length_cons] at b9
  rw [show j+1+l.length=j+(l.length+1) by omega]
  exact b9
theorem Qu {P:Program} {K K':List (Nat×ae)→eK→(Nat→Value)→ae→Prop} (hm:∀a b f h,K a b f h→K' a b f h):∀{l:List kh} {j:Nat} {aN:List (Nat×ae)} {aJ:eK} {f:Nat→Value} {h:ae},
  pb P l j aN aJ K f h→pb P l j aN aJ K' f h
 | [],_,_,_,_,_,hk=>hm _ _ _ _ hk
 | _::_,_,_,_,_,_,hk=>acK (fun _ _ _ _ b9=>Qu hm b9) hk
theorem adk {K K':List (Nat×ae)→eK→(Nat→Value)→ae→Prop} (hm:∀a b f h,K a b f h→K' a b f h):∀{l:List kh} {j:Nat} {aN:List (Nat×ae)} {aJ:eK} {f:Nat→Value} {h:ae},
  vF l j aN aJ K f h→vF l j aN aJ K' f h
 | [],_,_,_,_,_,hk=>hm _ _ _ _ hk
 | _::_,_,_,_,_,_,hk=>acJ (fun _ _ _ _ b9=>adk hm b9) hk
theorem adi {P:Program} {K:(Nat→Value)→ae→Prop}:∀{gs:List (Option (Nat×Bool)×List kh)} {j:Nat} {aN:List (Nat×ae)} {aJ:eK} {f:Nat→Value} {h:ae},(∀g l,(g,l)∈gs→∀o∈l,leaves g o.dst=true)→
  ow P gs j aN aJ K f h→lB P (tV gs) j aN aJ K f h:=by
 intro gs
 induction gs with
 | nil=>intro j aN aJ f h _ hk;exact hk
 | cons a gs ih=>
  obtain ⟨g,l⟩:=a
  intro j aN aJ f h hl hk
  have lR:∀g' l',(g',l')∈gs→∀o∈l',leaves g' o.dst=true:=fun g' l' hm=>hl g' l' (by simp [hm])
  simp only [tV]
  cases g with
  | none=>
   simp only [ow] at hk
   exact adj (hl none l (by simp)) (fun s b hs=>by cases hs) (Qu (fun a b f h b9=>ih lR b9) hk)
  | some sb=>
   obtain ⟨s,b⟩:=sb
   simp only [ow] at hk
   obtain ⟨e1,e2⟩:=IW hk
   rcases e2 with ⟨e2,e3⟩ | ⟨e2,e3⟩
   ·exact adj (hl _ l (by simp)) (fun s' b' hs=>by cases hs;exact ⟨e1,e2⟩) (Qu (fun a b f h b9=>ih lR b9) e3)
   ·exact av9 (hl _ l (by simp)) e1 e2 (adk (fun a b f h b9=>ih lR b9) e3)
end
section
def eI (V:Nat→Value) (S:List Nat):List cU→Nat→(Nat→Value)→(Nat→Value)
 | [],_,f=>f
 | d::ds,i,f=>eI V S ds (i+1) (if S.contains i then dG f d.op.dst (V i) else f)
theorem xl {V:Nat→Value} {S S':List Nat} {t:Nat}:∀{l:List cU} {i:Nat} {f f':Nat→Value},(∀k d,l[k]?=some d→d.op.dst=some t→(i+k∈S↔i+k∈S'))→f t=f' t→eI V S l i f t=eI V S' l i f' t
 | [],i,f,f',_,hf=>hf
 | d::ds,i,f,f',h,hf=>by
  simp only [eI]
  refine xl (fun k d' hk hd=>?_) ?_
  ·have:=h (k+1) d' (by simpa using hk) hd
   rw [show i+(k+1)=i+1+k by omega] at this
   exact this
  ·by_cases hd:d.op.dst=some t
   ·have:=h 0 d rfl hd
    simp only [add_zero] at this
    by_cases hi:i∈S
    ·simp [hi,this.1 hi,hd,dG,tH]
    ·have gu:i∉S':=fun h=>hi (this.2 h)
     simp [hi,gu,hf]
   ·have bk:∀v g,dG g d.op.dst v t=g t:=by
     intro v g
     cases xy:d.op.dst with
     | none=>rfl
     | some x=>
      have:t≠x:=by rintro rfl;exact hd xy
      simp [dG,tH,this]
    split <;> split <;> simp [bk,hf]
theorem Qm {V:Nat→Value} {S:List Nat} {t:Nat}:∀{l:List cU} {i:Nat} {f:Nat→Value} {k:Nat} {d:cU},l[k]?=some d→d.op.dst=some t→i+k∈S→
  (∀k' d',l[k']?=some d'→d'.op.dst=some t→k<k'→i+k'∉S)→eI V S l i f t=V (i+k)
 | [],i,f,k,d,hk,_,_,_=>by simp at hk
 | d0::ds,i,f,k,d,hk,hd,hS,BP=>by
  simp only [eI]
  cases k with
  | zero=>
   simp at hk;subst hk
   simp only [add_zero] at hS⊢
   have:eI V S ds (i+1) (if S.contains i=true then dG f d0.op.dst (V i) else f) t=eI V [] ds (i+1) (if S.contains i=true then dG f d0.op.dst (V i) else f) t:=by
    refine xl (fun k' d' b9 lP=>?_) rfl
    have:=BP (k'+1) d' (by simpa using b9) lP (by omega)
    rw [show i+(k'+1)=i+1+k' by omega] at this
    simp [this]
   rw [this]
   have Ez:∀(l:List cU) (i:Nat) (f:Nat→Value),eI V [] l i f=f:=by
    intro l
    induction l with
    | nil=>intro i f;rfl
    | cons a l ih=>intro i f;simp [eI,ih]
   rw [Ez]
   simp [hS,hd,dG,tH]
  | succ k=>
   have:=Qm (V:=V) (S:=S) (l:=ds) (i:=i+1) (f:=if S.contains i=true then dG f d0.op.dst (V i) else f) (k:=k) (d:=d) (by simpa using hk) hd (by rw [show i+1+k=i+(k+1) by omega];exact hS) (by
    intro k' d' b9 lP aD
    have:=BP (k'+1) d' (by simpa using b9) lP (by omega)
    rw [show i+(k'+1)=i+1+k' by omega] at this
    exact this)
   rw [this]
   congr 1
   omega
theorem D6 {P:Program} {l:List cU} {F:Nat→Nat→Value} {H:Nat→ae} {V:Nat→Value} (T:Trace P l 0 F H V):∀(r:List cU) (i:Nat) (S:List Nat) (j:Nat),(∀k,r[k]?=l[i+k]?)→(∀k,k∈S↔k<j)→i≤j→j≤i+r.length→
  eI V S r i (F i)=F j
 | [],i,S,j,_,_,h1,h2=>by
  simp at h2
  obtain rfl:i=j:=by omega
  rfl
 | d::r,i,S,j,hr,hS,h1,h2=>by
  simp only [eI]
  have h0:=hr 0
  simp only [List.getElem?_cons_zero,add_zero] at h0
  have hu:=T.ye i d h0.symm
  simp only [zero_add] at hu
  by_cases fB:i<j
  ·have:i∈S:=(hS i).2 fB
   simp only [List.contains_eq_mem,this,decide_true,if_true]
   rw [←hu]
   exact D6 T r (i+1) S j (fun k=>by have:=hr (k+1);rw [show i+(k+1)=i+1+k by omega] at this;simpa using this) hS (by omega) (by simp at h2;omega)
  ·obtain rfl:i=j:=by omega
   have hni:i∉S:=fun h=>by have:=(hS i).1 h;omega
   simp only [List.contains_eq_mem,hni,decide_false,Bool.false_eq_true,if_false]
   have axs:∀(r:List cU) (k:Nat) (f:Nat→Value),i≤k→eI V S r k f=f:=by
    intro r
    induction r with
    | nil=>intro k f _;rfl
    | cons a r ih=>
     intro k f hk
     have:k∉S:=fun h=>by have:=(hS k).1 h;omega
     simp [eI,this,ih (k+1) f (by omega)]
   exact axs r (i+1) _ (by omega)
def C8 (es:List (List Nat)) (S:List Nat):Prop:=∀j e,j∈S→e∈(es.getD j [])→e∈S
theorem akW {qk:List Nat}:∀{es:List Nat} {i:Nat},(wE qk es).testBit i=true→∃e∈es,i=e∨(qk.getD e 0).testBit i=true
 | [],i,h=>by simp [wE] at h
 | e::es,i,h=>by
  simp only [wE,Nat.testBit_or,or_eq_true] at h
  rcases h with (h | h) | h
  ·refine ⟨e,by simp,.inl ?_⟩
   rw [Nat.testBit_two_pow] at h
   exact (by simpa using h:e=i).symm
  ·exact ⟨e,by simp,.inr h⟩
  ·obtain ⟨e',h1,h2⟩:=akW h
   exact ⟨e',by simp [h1],h2⟩
theorem at9:∀{es:List (List Nat)} {acc:List Nat} {all:List (List Nat)},(∀k,es[k]?=all[acc.length+k]?)→(∀j i,j<acc.length→(acc.getD j 0).testBit i=true→∃e∈all.getD j [],i=e∨((jF es acc).getD e 0).testBit i=true)→
  (∀j i,((jF es acc).getD j 0).testBit i=true→∃e∈all.getD j [],i=e∨((jF es acc).getD e 0).testBit i=true):=by
 intro es
 induction es with
 | nil=>
  intro acc all _ Ef j i h
  simp only [jF] at h⊢Ef
  by_cases hj:j<acc.length
  ·exact Ef j i hj h
  ·have:acc.getD j 0=0:=by simp [getD,le_of_not_lt hj]
   rw [this] at h
   simp at h
 | cons e0 es ih=>
  intro acc all fJ Ef j i h
  simp only [jF] at h⊢Ef
  have dH:∀(es:List (List Nat)) (acc:List Nat) (k:Nat),k<acc.length→(jF es acc).getD k 0=acc.getD k 0:=by
   intro es
   induction es with
   | nil=>intro acc k _;rfl
   | cons a es ih'=>
    intro acc k hk
    simp only [jF]
    rw [ih' _ k (by simp;omega)]
    simp [getD,getElem?_append_left hk]
  refine ih (acc:=acc++[wE acc e0]) (all:=all) ?_ ?_ j i h
  ·intro k
   have:=fJ (k+1)
   simp only [List.getElem?_cons_succ] at this
   rw [this]
   congr 1
   simp
   omega
  ·intro j' i' Eo hb
   by_cases aD:j'<acc.length
   ·rw [show (acc++[wE acc e0]).getD j' 0=acc.getD j' 0 by simp [getD,getElem?_append_left aD]] at hb
    exact Ef j' i' aD hb
   ·obtain rfl:j'=acc.length:=by simp at Eo;omega
    rw [show (acc++[wE acc e0]).getD acc.length 0=wE acc e0 by simp [getD]] at hb
    obtain ⟨e,h1,h2⟩:=akW hb
    have h0:=fJ 0
    simp only [List.getElem?_cons_zero,add_zero] at h0
    refine ⟨e,by simp [getD,←h0,h1],?_⟩
    rcases h2 with h2 | h2
    ·exact .inl h2
    ·right
     have aww:e<acc.length:=by
      apply byContradiction
      intro cE
      have:acc.getD e 0=0:=by simp [getD,le_of_not_lt cE]
      rw [this] at h2
      simp at h2
     rw [dH _ _ _ (by simp;omega)]
     simpa [getD,getElem?_append_left aww] using h2
theorem KQ {es:List (List Nat)} {S:List Nat} (hS:C8 es S) (zh:∀j e,e∈es.getD j []→e<j):∀(j i:Nat),(∀e∈es.getD j [],e∈S)→((jF es []).getD j 0).testBit i=true→i∈S:=by
 intro j
 induction j using Nat.strongRecOn with
 | _ j ih=>
  intro i he hb
  obtain ⟨e,h1,h2⟩:=at9 (es:=es) (acc:=[]) (all:=es) (fun k=>by simp) (fun j i hj=>by simp at hj) j i hb
  rcases h2 with rfl | h2
  ·exact he _ h1
  ·exact ih e (zh j e h1) i (fun e' fK=>hS e e' (he e h1) fK) h2
end
section
section
variable {P : Program} {N : Nat}
theorem Me {l:List cU} {F:Nat→Nat→Value} {H:Nat→ae} {V:Nat→Value} (T:Trace P l 0 F H V) {i:Nat}:∀(d:Nat),i+d≤l.length→(∀e oe,l[e]?=some oe→oe.op.op.dF=true→¬(i≤e∧e<i+d))→H (i+d)=H i
 | 0,_,_=>rfl
 | d+1,hl,hE=>by
  have ih:=Me T d (by omega) (fun e oe h1 h2 h3=>hE e oe h1 h2 ⟨h3.1,by omega⟩)
  have aD:i+d<l.length:=by omega
  have bT:l[i+d]?=some l[i+d]:=getElem?_eq_getElem aD
  have Jh:l[i+d].op.op.dF=false:=by
   cases hq:l[i+d].op.op.dF with
   | false=>rfl
   | true=>exact absurd ⟨by omega,by omega⟩ (hE (i+d) _ bT hq)
  rw [show i+(d+1)=i+d+1 by omega]
  rw [←ih]
  have hy:=T.yes (i+d) _ bT
  have hn:=T.no (i+d) _ bT
  simp only [zero_add] at hy hn
  cases hw:iO l[i+d].op.guard (F (i+d)) with
  | false=>exact (hn hw).2
  | true=>
   have hs:=hy hw
   generalize l[i+d].op.op=io at hs Jh
   cases io with
   | p po=>
    simp only [dd,fD] at hs
    split at hs
    ·exact hs.2.symm
    ·exact hs.elim
   | l lo=>
    simp only [dd,fD] at hs
    split at hs
    ·exact hs.2.symm
    ·exact hs.elim
   | e eo=>cases Jh
   | call g args=>cases Jh
   | kY x args=>cases Jh
theorem rB {l:List cU} {F:Nat→Nat→Value} {H:Nat→ae} {V:Nat→Value} (T:Trace P l 0 F H V) {i k:Nat} (pU:i≤k) (hk:k≤l.length) (hE:∀e oe,l[e]?=some oe→oe.op.op.dF=true→¬(i≤e∧e<k)):H k=H i:=by
 have:=Me T (i:=i) (k-i) (by omega) (fun e oe h1 h2 h3=>hE e oe h1 h2 ⟨h3.1,by omega⟩)
 rw [show i+(k-i)=k by omega] at this
 exact this
def MZ (l:List cU) (S:List Nat) (m:Nat):Prop:=∀e oe,l[e]?=some oe→oe.op.op.dF=true→(e∈S↔e<m)
theorem FD {l:List cU} (h:KJ l=true) {i j:Nat} {oi oj:cU} (hi:l[i]?=some oi) (hj:l[j]?=some oj):Cv oj j oi i=true:=by
 unfold KJ at h
 rw [all_eq_true] at h
 have h1:=h (oj,j) (List.mem_zipIdx_iff_getElem?.2 hj)
 simp only at h1
 rw [all_eq_true] at h1
 exact h1 (oi,i) (List.mem_zipIdx_iff_getElem?.2 hi)
theorem akL {oi oj:cU} {i j t:Nat} (h:Cv oj j oi i=true) (bk:i≠j) (hd:oi.op.dst=some t) (ht:uN oj t=true):(if i<j then oj.pre.testBit i else oi.pre.testBit j)=true:=by
 unfold Cv at h
 rw [hd] at h
 simp only [and_eq_true,or_eq_true,beq_iff_eq,ht,Bool.not_true,Bool.false_eq_true,false_or] at h
 rcases h.1 with h | h
 ·exact absurd h bk
 ·exact h
theorem Uz {oi oj:cU} {i j:Nat} (h:Cv oj j oi i=true) (aD:i<j) (hi:oi.op.op.dF=true) (hj:oj.op.op.dF=true):oj.pre.testBit i=true:=by
 unfold Cv at h
 simp only [and_eq_true,aD,decide_true,hi,hj,Bool.and_self,Bool.not_true,Bool.false_or] at h
 exact h.2
theorem auG {ops:Array Oper} {l:List cU} {F:Nat→Nat→Value} {H:Nat→ae} {V:Nat→Value} (T:Trace P l 0 F H V) (hlen:l.length=ops.size)
  (awt:∀(k:Nat) (o:Oper) (d:cU),ops[k]?=some o→l[k]?=some d→yM P N ops o=some d.op)
  (hY:∀k d,l[k]?=some d→d.pre=(jF (ops.toList.map fq) []).getD k 0)
  (zh:∀j e,e∈(ops.toList.map fq).getD j []→e<j) (xH:KJ l=true) {S r:List Nat} (hv:yy ops S r):
  C8 (ops.toList.map fq) S→(∀i∈S,i<ops.size)→∀m,m≤l.length→MZ l S m→∀S' B ρ a w,ee P N B ρ (eI V S l 0 (F 0)) (H m) a w→∀Q:Exit→Act→World→Prop,
   (∀av a' w',ee P N B av (F l.length) (H l.length) a' w'→Tr ρ (H m) w av (H l.length) w'→Q .normal a' w')→wpOpsIn (FR S') 0 P ops Q r a w:=by
 induction hv with
 | nil fJ=>
  rename_i S
  intro fU aD m hm bK S' B ρ a w R Q hq
  have hF:eI V S l 0 (F 0)=F l.length:=by
   have h1:=D6 T l 0 (List.range l.length) l.length (fun k=>by simp) (fun k=>by simp) (by omega) (by omega)
   rw [←h1]
   funext t
   refine xl (fun k d hk _=>?_) rfl
   have gv:=(bD hk).1
   simp only [zero_add,mem_range]
   exact ⟨fun _=>gv,fun _=>fJ k (by omega)⟩
  have hH:H l.length=H m:=by
   refine rB T hm (le_refl _) ?_
   rintro e oe he hE ⟨h1,h2⟩
   have:=(bK e oe he hE).1 (fJ e (by omega))
   omega
  rw [hF] at R
  simp only [wpOpsIn]
  refine hq ρ a w (by rw [hH];exact R) ?_
  rw [hH]
  exact Tr.refl R.heap
 | cons vU vT zw hvr ih=>
  rename_i S j o r
  intro fU aD m hm bK S' B ρ a w R Q hq
  have vM:j<ops.size:=(Array.getElem?_eq_some_iff.1 vU).1
  have bT:l[j]?=some (l[j]'(by omega)):=getElem?_eq_getElem _
  generalize hd0:l[j]'(by omega)=d at bT
  have hc:=awt j o d vU bT
  obtain ⟨q1,q2,q3,q4,q5⟩:=DK hc
  have jj:(ops.toList.map fq).getD j []=fq o:=by
   simp [getD,vU]
  have uc:C8 (ops.toList.map fq) (j::S):=by
   intro k e hk he
   rcases mem_cons.1 hk with rfl | hk
   ·rw [jj] at he
    exact mem_cons_of_mem _ (zw e he)
   ·exact mem_cons_of_mem _ (fU k e hk he)
  have before:∀i,d.pre.testBit i=true→i∈S:=by
   intro i hb
   rw [hY j d bT] at hb
   exact KQ fU zh j i (by rw [jj];exact zw) hb
  have behind:∀k dk,l[k]?=some dk→dk.pre.testBit j=true→k∉S:=by
   intro k dk hk hb Es
   rw [hY k dk hk] at hb
   exact vT (KQ fU zh k j (fun e he=>fU k e Es he) hb)
  have slot:∀t,uN d t=true→eI V S l 0 (F 0) t=F j t:=by
   intro t ht
   have h1:=D6 T l 0 (List.range j) j (fun k=>by simp) (fun k=>by simp) (by omega) (by omega)
   rw [←h1]
   refine xl (fun k dk hk zt=>?_) rfl
   simp only [zero_add,mem_range]
   by_cases pX:k=j
   ·subst pX
    exact ⟨fun h=>absurd h vT,fun h=>absurd h (Nat.lt_irrefl _)⟩
   ·have hp:=akL (FD xH hk bT) pX zt ht
    by_cases mX:k<j
    ·rw [if_pos mX] at hp
     exact ⟨fun _=>mX,fun _=>before k hp⟩
    ·rw [if_neg mX] at hp
     exact ⟨fun h=>absurd h (behind k dk hk hp),fun h=>absurd h mX⟩
  have zO:∀t∈d.op.reads,eI V S l 0 (F 0) t=F j t:=fun t ht=>slot t (by simp [uN,ht])
  have BT:∀t∈tmpsOf d.op.op.iu,eI V S l 0 (F 0) t=F j t:=fun t ht=>zO t (by simp [iT.reads,ht])
  have EO:iO d.op.guard (eI V S l 0 (F 0))=iO d.op.guard (F j):=by
   cases hg:d.op.guard with
   | none=>rfl
   | some sb=>
    obtain ⟨s,b⟩:=sb
    simp only [iO]
    rw [zO s (by simp [iT.reads,hg])]
  have Q3:sP d.op.guard (eI V S l 0 (F 0)):=by
   have:=T.QA j d bT
   simp only [zero_add] at this
   cases hg:d.op.guard with
   | none=>trivial
   | some sb=>
    obtain ⟨s,b⟩:=sb
    rw [hg] at this
    simp only [sP] at this⊢
    rw [zO s (by simp [iT.reads,hg])]
    exact this
  have EP:=F0 q4 R Q3
  have jz:eI V (j::S) l 0 (F 0)=dG (eI V S l 0 (F 0)) o.dst (V j):=by
   rw [←q5]
   funext t
   by_cases mA:d.op.dst=some t
   ·have h1:=Qm (V:=V) (S:=j::S) (l:=l) (i:=0) (f:=F 0) (k:=j) (d:=d) bT mA (by simp) (by
     intro k' d' b9 lP mX
     have hp:=akL (FD xH b9 bT) (by omega) lP (by simp [uN,mA])
     rw [if_neg (by omega)] at hp
     have:=behind k' d' b9 hp
     simp only [zero_add,mem_cons,not_or]
     exact ⟨by omega,this⟩)
    rw [h1]
    simp [mA,dG,tH]
   ·have h1:eI V (j::S) l 0 (F 0) t=eI V S l 0 (F 0) t:=by
     refine xl (fun k dk hk zt=>?_) rfl
     have pX:k≠j:=by
      rintro rfl
      rw [bT] at hk
      cases hk
      exact mA zt
     simp [pX]
    rw [h1]
    cases xy:d.op.dst with
    | none=>rfl
    | some x=>
     have:t≠x:=by rintro rfl;exact mA xy
     simp [dG,tH,this]
  have mY:∀i∈j::S,i<ops.size:=by
   intro i hi
   rcases mem_cons.1 hi with rfl | hi
   ·exact vM
   ·exact aD i hi
  -- gN FQ,where gN azQ writes memory
  have FT:d.op.op.dF=true→H m=H j∧MZ l (j::S) (j+1):=by
   intro hE
   have qK:m≤j:=by
    apply byContradiction
    intro h
    exact vT ((bK j d bT hE).2 (by omega))
   refine ⟨?_,?_⟩
   ·refine (rB T qK (by omega) ?_).symm
    rintro e oe he mo ⟨h1,h2⟩
    have hb:=Uz (FD xH he bT) h2 mo hE
    have:=(bK e oe he mo).1 (before e hb)
    omega
   ·intro e oe he mo
    rcases Nat.lt_trichotomy e j with mX | rfl | sV
    ·have hb:=Uz (FD xH he bT) mX mo hE
     exact ⟨fun _=>by omega,fun _=>mem_cons_of_mem _ (before e hb)⟩
    ·exact ⟨fun _=>by omega,fun _=>by simp⟩
    ·have hb:=Uz (FD xH bT he) sV hE mo
     have:=behind e oe he hb
     constructor
     ·intro h
      rcases mem_cons.1 h with h | h
      ·omega
      ·exact absurd h this
     ·intro h;omega
  have CI:d.op.op.dF=false→MZ l (j::S) m:=by
   intro hE e oe he mo
   have bk:e≠j:=by
    rintro rfl
    rw [bT] at he
    cases he
    rw [hE] at mo
    cases mo
   rw [←bK e oe he mo]
   simp [bk]
  have ES:=T.yes j d bT
  have dC:=T.no j d bT
  simp only [zero_add] at ES dC
  simp only [wpOpsIn,vU]
  by_cases hw:iO d.op.guard (F j)=true
  ·rw [if_pos (by rw [EP,EO,hw])]
   have hs:=ES hw
   by_cases hE:d.op.op.dF=true
   ·obtain ⟨e1,e2⟩:=FT hE
    rw [←Lm BT,←e1] at hs
    obtain ⟨v,h',st,hv,hh⟩:=Av (N:=N) q3 q1 hs
    subst hv
    subst hh
    refine st S' B ρ a w R _ _ ?_
    intro av v' w' vZ HH TT
    have R':=R.uF q2 TT vZ HH
    rw [←jz] at R'
    exact ih uc mY (j+1) (by omega) e2 S' B av _ w' R' Q fun mL sJ jZ oV tP=>hq mL sJ jZ oV (TT.trans tP)
   ·have fT:d.op.op.dF=false:=by simpa using hE
    -- uO is looked at has one value at this FQ and in gN aGD order
    have dX:dd P d.op.op (eI V S l 0 (F 0)) (H m) fun v h'=>v=V j∧h'=H m:=by
     rw [Lm BT]
     cases cZ:d.op.op with
     | p po=>
      rw [cZ] at hs
      simp only [dd,fD] at hs⊢
      split at hs
      ·exact ⟨hs.1,trivial⟩
      ·exact hs.elim
     | l lo=>
      have bU:fC lo (ev (F j)) (H m)=some (V j):=by
       have B1:fC lo (ev (F j)) (H j)=some (V j):=by
        rw [cZ] at hs
        simp only [dd,fD] at hs
        split at hs
        ·rename_i v hv
         rw [hv,hs.1]
        ·exact hs.elim
       rcases Nat.le_total m j with qK | qK
       ·by_cases hex:∃e oe,l[e]?=some oe∧oe.op.op.dF=true∧m≤e∧e<j
        ·-- gN least of aE1
         have key:∀n,(∃e oe,l[e]?=some oe∧oe.op.op.dF=true∧m≤e∧e<j∧e<n)→∃e oe,l[e]?=some oe∧oe.op.op.dF=true∧m≤e∧e<j∧∀e' jr,l[e']?=some jr→jr.op.op.dF=true→¬(m≤e'∧e'<e):=by
          intro n
          induction n with
          | zero=>rintro ⟨e,oe,_,_,_,_,h⟩;omega
          | succ n th=>
           rintro ⟨e,oe,h1,h2,h3,h4,h5⟩
           by_cases eD:∃e oe,l[e]?=some oe∧oe.op.op.dF=true∧m≤e∧e<j∧e<n
           ·exact th eD
           ·refine ⟨e,oe,h1,h2,h3,h4,?_⟩
            rintro e' jr k1 k2 ⟨k3,k4⟩
            exact eD ⟨e',jr,k1,k2,k3,by omega,by omega⟩
         obtain ⟨e0,Au,g1,g2,g3,g4⟩:=hex
         obtain ⟨e,oe,h1,h2,h3,h4,h5⟩:=key j ⟨e0,Au,g1,g2,g3,g4,g4⟩
         have yY:H e=H m:=rB T h3 (by omega) (fun e' jr k1 k2 k3=>h5 e' jr k1 k2 k3)
         rw [←yY]
         have vS:d.pre.testBit e=false:=by
          cases hb:d.pre.testBit e with
          | false=>rfl
          | true=>
           have:=(bK e oe h1 h2).1 (before e hb)
           omega
         have:=T.UF e oe j d lo h1 h2 bT cZ (by simpa using hw) h4 (by simpa using vS)
         simpa using this
        ·have yZ:H j=H m:=rB T qK (by omega) (fun e oe h1 h2 h3=>hex ⟨e,oe,h1,h2,h3⟩)
         rw [←yZ]
         exact B1
       ·by_cases hex:∃e oe,l[e]?=some oe∧oe.op.op.dF=true∧j≤e∧e<m
        ·have key:∀n,(∃e oe,l[e]?=some oe∧oe.op.op.dF=true∧j≤e∧e<m∧m≤e+n)→∃e oe,l[e]?=some oe∧oe.op.op.dF=true∧j≤e∧e<m∧∀e' jr,l[e']?=some jr→jr.op.op.dF=true→¬(e+1≤e'∧e'<m):=by
          intro n
          induction n with
          | zero=>rintro ⟨e,oe,_,_,_,_,h⟩;omega
          | succ n th=>
           rintro ⟨e,oe,h1,h2,h3,h4,h5⟩
           by_cases eD:∃e oe,l[e]?=some oe∧oe.op.op.dF=true∧j≤e∧e<m∧m≤e+n
           ·exact th eD
           ·refine ⟨e,oe,h1,h2,h3,h4,?_⟩
            rintro e' jr k1 k2 ⟨k3,k4⟩
            exact eD ⟨e',jr,k1,k2,by omega,by omega,by omega⟩
         obtain ⟨e0,Au,g1,g2,g3,g4⟩:=hex
         obtain ⟨e,oe,h1,h2,h3,h4,h5⟩:=key m ⟨e0,Au,g1,g2,g3,g4,by omega⟩
         have bk:e≠j:=by
          rintro rfl
          rw [bT] at h1
          cases h1
          rw [fT] at h2
          cases h2
         have yY:H m=H (e+1):=rB T (by omega) hm (fun e' jr k1 k2 k3=>h5 e' jr k1 k2 k3)
         rw [yY]
         have vS:oe.pre.testBit j=false:=by
          cases hb:oe.pre.testBit j with
          | false=>rfl
          | true=>exact absurd ((bK e oe h1 h2).2 h4) (behind e oe h1 hb)
         have:=T.Qn j d lo e oe bT cZ (by simpa using hw) h1 h2 (by omega) (by simpa using vS)
         simpa using this
        ·have yZ:H m=H j:=rB T qK hm (fun e oe h1 h2 h3=>hex ⟨e,oe,h1,h2,h3⟩)
         rw [yZ]
         exact B1
      simp [dd,fD,bU]
     | e eo=>rw [cZ] at fT;cases fT
     | call g args=>rw [cZ] at fT;cases fT
     | kY x args=>rw [cZ] at fT;cases fT
    obtain ⟨v,h',st,hv,hh⟩:=Av (N:=N) q3 q1 dX
    subst hv
    subst hh
    refine st S' B ρ a w R _ _ ?_
    intro av v' w' vZ HH TT
    have R':=R.uF q2 TT vZ HH
    rw [←jz] at R'
    exact ih uc mY m hm (CI fT) S' B av _ w' R' Q fun mL sJ jZ oV tP=>hq mL sJ jZ oV (TT.trans tP)
  ·have qT:iO d.op.guard (F j)=false:=by simpa using hw
   rw [if_neg (by rw [EP,EO,qT];simp)]
   obtain ⟨n1,n2⟩:=dC qT
   have R':=R.uF q2 (Tr.refl R.heap) (ax.undef _) R.heap
   rw [n1] at jz
   rw [←jz] at R'
   by_cases hE:d.op.op.dF=true
   ·obtain ⟨e1,e2⟩:=FT hE
    have e3:H (j+1)=H m:=by rw [n2,e1]
    exact ⟨fun _ _=>trivial,ih uc mY (j+1) (by omega) e2 S' B ρ _ w (by rw [e3];exact R') Q fun mL sJ jZ oV tP=>hq mL sJ jZ oV (by rw [e3] at tP;exact tP)⟩
   ·exact ⟨fun _ _=>trivial,ih uc mY m hm (CI (by simpa using hE)) S' B ρ _ w R' Q hq⟩
theorem Wh:∀{ios:List iT} {ps:List Nat},ios.length≤ps.length→(oR ios ps).length=ios.length∧∀(k:Nat) (d:cU),(oR ios ps)[k]?=some d→ios[k]?=some d.op∧d.pre=ps.getD k 0
 | [],ps,_=>⟨by simp [oR],fun k d h=>by simp [oR] at h⟩
 | o::ios,[],h=>by simp at h
 | o::ios,p::ps,h=>by
  obtain ⟨h1,h2⟩:=Wh (ios:=ios) (ps:=ps) (by simpa using h)
  refine ⟨by simp [oR,h1],?_⟩
  intro k d hk
  cases k with
  | zero=>simp [oR] at hk;subst hk;simp
  | succ k=>
   simp only [oR,List.getElem?_cons_succ] at hk
   obtain ⟨a,b⟩:=h2 k d hk
   exact ⟨by simpa using a,by simpa [getD] using b⟩
theorem Ig:∀(es:List (List Nat)) (acc:List Nat),(jF es acc).length=acc.length+es.length
 | [],acc=>by simp [jF]
 | e::es,acc=>by simp only [jF];rw [Ig];simp;omega
theorem PN {ops:Array Oper}:∀{os:List Oper} {l:List iT},lN P N ops os=some l→l.length=os.length∧∀(k:Nat) (o:Oper) (x:iT),os[k]?=some o→l[k]?=some x→yM P N ops o=some x
 | [],l,h=>by
  simp [lN] at h
  subst h
  exact ⟨rfl,fun k o x hk=>by simp at hk⟩
 | o::os,l,h=>by
  obtain ⟨x,xs,h1,h2,rfl⟩:=vp h
  obtain ⟨e1,e2⟩:=PN h2
  refine ⟨by simp [e1],?_⟩
  intro k o' x' hk hx
  cases k with
  | zero=>simp at hk hx;subst hk;subst hx;exact h1
  | succ k=>exact e2 k o' x' (by simpa using hk) (by simpa using hx)
theorem axL {out:Bool} {id:Nat} {ops:Array Oper} {l:List cU} {K:(Nat→Value)→ae→Prop} {f:Nat→Value} {h:ae} (hc:PJ P N ops=some l) (hi:lB P l 0 [] [] K f h):
  ∃f' h',gR P N out (.region id ops true) f h .normal f' h'∧K f' h':=by
 unfold PJ at hc
 split at hc
 ·rename_i ios Q7
  split at hc
  ·rename_i sU
   simp at hc
   simp only [and_eq_true] at sU
   obtain ⟨⟨Ev,sS⟩,xH⟩:=sU
   rw [hc] at xH
   obtain ⟨g1,g2⟩:=PN Q7
   have Rd:ios.length≤(jF (ops.toList.map fq) []).length:=by rw [Ig];simp [g1]
   obtain ⟨z1,z2⟩:=Wh Rd
   rw [hc] at z1 z2
   have hlen:l.length=ops.size:=by rw [z1,g1];simp
   obtain ⟨F,H,V,f1,f2,f3,T,_,_⟩:=R7 hi
   simp only [zero_add] at f3
   refine ⟨F l.length,H l.length,?_,f3⟩
   ·intro S hS B ρ a w R
    refine wpIn_region_draw ?_
    intro t
    have RC:Region.schedule (P.follows .mixedOrders) ops t=Region.linearise .any ops t:=by
     unfold Region.schedule
     rw [Ev]
     simp
    rw [RC]
    have bU:=afF sS t
    have zh:∀j e,e∈(ops.toList.map fq).getD j []→e<j:=by
     intro j e he
     by_cases hj:j<ops.size
     ·have hg:ops.toList[j]?=some ops[j]:=by simp [hj]
      have:(ops.toList.map fq).getD j []=fq ops[j]:=by simp [getD,hj]
      rw [this] at he
      have:=GX sS j ops[j] hg e he
      omega
     ·have:(ops.toList.map fq).getD j []=[]:=by simp [getD,le_of_not_lt hj]
      rw [this] at he
      simp at he
    have Ez:∀(l:List cU) (i:Nat) (f:Nat→Value),eI V [] l i f=f:=by
     intro l
     induction l with
     | nil=>intro i f;rfl
     | cons a l ih=>intro i f;simp [eI,ih]
    have R1:ee P N B ρ (eI V [] l 0 (F 0)) (H 0) a { w with drawn:=w.drawn+1 }:=by
     rw [Ez,f1,f2]
     exact R.mono (Tr.drew R.heap _) (R.heap.drew _)
    refine auG T hlen ?_ ?_ zh xH bU (fun j e hj=>by simp at hj) (fun i hi=>by simp at hi) 0 (by omega) (fun e oe _ _=>by simp) S B ρ a _ R1 _ ?_
    ·intro k o d hk hd
     exact g2 k o d.op (by simpa using hk) (z2 k d hd).1
    ·intro k d hd
     exact (z2 k d hd).2
    ·intro av a' w' R' T'
     refine ⟨rfl,av,R',?_⟩
     have T0:=Tr.drew R.heap (w.drawn+1)
     rw [f2] at T'
     exact T0.trans T'
  ·cases hc
 ·cases hc
end
end
section
section
variable {P : Program} {w : World} {ρ : aL} {h : ae}
theorem aY.alloc (H:aY P ρ h w) (b:Obj):aY P ρ h (w.alloc b)∧Tr ρ h w ρ h (w.alloc b):=by
 have nb:=jU.alloc w b
 refine ⟨⟨?_,H.inj,H.aW⟩,?_⟩
 ·intro i r hi
  obtain ⟨o,ho,hr⟩:=H.obj i r hi
  refine ⟨o,ho,?_⟩
  by_cases hd:o=.dead
  ·subst hd;trivial
  ·exact hr.mono (.refl _) (nb.old (Cp H hi ⟨o,ho,hd⟩))
 ·exact {
   ext:=.refl _
   len:=le_refl _
   jG:=fun i r hi=>H.lt hi
   kinds:=fun i _ hm=>hm
   fresh:=fun i s h1 h2=>by rw [h1] at h2;cases h2
   iP:=by rw [nb.size];omega
   iy:=fun k hk _=>nb.old hk
   os:=nb.os
   tape:=nb.tape
   output:=nb.output }
theorem Az {l k:Nat} {o:Obj} (hk:k≠l):(w.putObj l o).heap[k]?=w.heap[k]?:=World.putObj_heap_other hk
theorem aY.put (H:aY P ρ h w) {l:Nat} (dC:∀j s,ρ j=some s→s.bz=l→¬eR h j) (o:Obj):aY P ρ h (w.putObj l o):=by
 refine ⟨?_,H.inj,H.aW⟩
 intro i r hi
 obtain ⟨o',ho,hr⟩:=H.obj i r hi
 refine ⟨o',ho,?_⟩
 by_cases hd:o'=.dead
 ·subst hd;trivial
 ·refine hr.mono (.refl _) (Az ?_)
  intro e
  exact dC i r hi e ⟨o',ho,hd⟩
theorem aY.afk (H:aY P ρ h w) {l:Nat} {rec:Loop} (hl:w.heap[l]?=some (.loop rec)) {j:Nat} {s:RI} (hj:ρ j=some s) (hs:s.bz=l) (hv:eR h j):∃c ls vs,h[j]?=some (.loop c ls vs):=by
 obtain ⟨o,ho,bk⟩:=hv
 obtain ⟨o',dL,hr⟩:=H.obj j s hj
 rw [ho] at dL
 cases dL
 subst hs
 cases o with
 | ro e xs=>obtain ⟨_,c,_,fr,h2,_⟩:=hr;rw [hl] at h2;cases h2
 | arr e xs=>obtain ⟨_,_,c,h2,_⟩:=hr;rw [hl] at h2;cases h2
 | smap es=>obtain ⟨aK,clock,h1,_⟩:=hr;rw [hl] at h1;cases h1
 | kQ kd es=>obtain ⟨aK,clock,h1,_⟩:=hr;rw [hl] at h1;cases h1
 | di g c es=>obtain ⟨_,aK,h1,_⟩:=hr;rw [hl] at h1;cases h1
 | iter m s n l=>obtain ⟨_,rm,_,h1⟩:=hr;rw [hl] at h1;cases h1
 | loop c ls vs=>exact ⟨c,ls,vs,ho⟩
 | dead=>exact absurd rfl bk
theorem Tr.late {av:aL} {h':ae} {w':World} (T:Tr ρ h w av h' w') {l:Nat} (hl:w.heap.size≤l) (o:Obj) (i:Nat):Tr ρ h w av (h'.set i .dead) (w'.putObj l o) where
 ext:=T.ext
 len:=by simpa using T.len
 jG:=T.jG
 kinds:=by
  intro j hj hm
  refine T.kinds j hj ?_
  by_cases e:j=i
  ·subst e
   have aD:j<h'.length:=Nat.lt_of_lt_of_le hj T.len
   unfold cA at hm
   rw [getElem?_set_self aD] at hm
   rcases hm with ⟨_,_,h1⟩ | ⟨_,h1⟩ | ⟨_,_,_,h1⟩ | ⟨_,_,h1⟩ | ⟨_,_,_,h1⟩ | ⟨_,_,_,_,h1⟩ <;> cases h1
  ·unfold cA at hm⊢
   rw [getElem?_set_ne (Ne.symm e)] at hm
   exact hm
 fresh:=T.fresh
 iP:=by rw [World.putObj_size];exact T.iP
 iy:=fun k hk dC=>by rw [Az (by omega)];exact T.iy k hk dC
 os:=T.os
 tape:=T.tape
 output:=T.output
theorem aY.kill (H:aY P ρ h w) (i:Nat):aY P ρ (h.set i .dead) w:=by
 have hm:∀j,cA (h.set i .dead) j→cA h j:=by
  intro j hj
  by_cases e:j=i
  ·subst e
   unfold cA at hj
   by_cases aD:j<h.length
   ·rw [getElem?_set_self aD] at hj
    rcases hj with ⟨_,_,h1⟩ | ⟨_,h1⟩ | ⟨_,_,_,h1⟩ | ⟨_,_,h1⟩ | ⟨_,_,_,h1⟩ | ⟨_,_,_,_,h1⟩ <;> cases h1
   ·rw [getElem?_eq_none (by simpa using le_of_not_lt aD)] at hj
    rcases hj with ⟨_,_,h1⟩ | ⟨_,h1⟩ | ⟨_,_,_,h1⟩ | ⟨_,_,h1⟩ | ⟨_,_,_,h1⟩ | ⟨_,_,_,_,h1⟩ <;> cases h1
  ·unfold cA at hj⊢
   rw [getElem?_set_ne (Ne.symm e)] at hj
   exact hj
 have hl:∀j,eR (h.set i .dead) j→eR h j:=by
  intro j hj
  by_cases e:j=i
  ·subst e
   obtain ⟨o,ho,bk⟩:=hj
   by_cases aD:j<h.length
   ·rw [getElem?_set_self aD] at ho
    cases ho
    exact absurd rfl bk
   ·rw [getElem?_eq_none (by simpa using le_of_not_lt aD)] at ho
    cases ho
  ·unfold eR at hj⊢
   rw [getElem?_set_ne (Ne.symm e)] at hj
   exact hj
 refine ⟨?_,fun a b r s ha hb nc h1 h2=>H.inj a b r s ha hb nc (hm a h1) (hl b h2),H.aW⟩
 intro j r hj
 by_cases e:j=i
 ·subst e
  exact ⟨.dead,by rw [getElem?_set_self (H.lt hj)],trivial⟩
 ·obtain ⟨o,ho,hr⟩:=H.obj j r hj
  exact ⟨o,by rw [getElem?_set_ne (Ne.symm e)];exact ho,hr⟩
theorem aEm {g:FuncId} {first cap:Array Value} (mV:rG P g=true) (a:Act) (gx:Operand) (hy:a.eval gx=.func (.func g) first cap) (l:Nat) (w:World):
  ∃d,(resolve a.eval (rangeCall gx l) 0).run P w=.ok d w∧(invoke d.target d.args).run P w=.ok (.enter g (first++#[.func (.yield l) #[] #[]]++cap)) w:=by
 refine ⟨_,by simp [resolve,hy,Deferred.ofValue];rfl,?_⟩
 simp [invoke,PB mV,Act.eval]
theorem alU {N:Nat} {g:Operand} {ps:Array Tmp} {kj body:Code} {ls:List Nat} {K:ae→Prop} {f:Nat→Value} (aH:jC g=true)
  (hi:uH P (ev f g) ls (ls.map f) ⟨N,ps,kj,body⟩ h K):∃h',gR P N true (.rangeFunc g ps kj body) f h .normal f h'∧K h':=by
 unfold uH at hi
 split at hi
 ·rename_i F first cap hx
  obtain ⟨mV,v,h',rO,⟨c',ls',ju,bT⟩,hk⟩:=hi
  refine ⟨_,?_,hk⟩
  intro S hS B ρ a w R
  obtain rfl:=hS rfl
  refine wpIn_rangeFunc fun fn _=>?_
  obtain ⟨H0,T0⟩:=R.heap.alloc (.deferred (some []))
  have kn:(w.alloc (.deferred (some []))).heap.size=w.heap.size+1:=World.size_alloc _ _
  have nb:=jU.alloc (w.alloc (.deferred (some []))) (.loop { state:=.ready,pending:=none,fn,tmps:=a.tmps,params:=ps,assign:=kj,body,defers:=w.heap.size })
  obtain ⟨H1,T1⟩:=H0.new (h₀:=h) (o:=.loop ⟨N,ps,kj,body⟩ ls (ls.map f)) (r:=⟨w.heap.size+1,0,0,P.cellsOf 0,0⟩) nb kn.symm rfl rfl (fun _=>.inl rfl)
   ⟨_,by rw [←kn];exact nb.new,rfl,rfl,rfl,rfl,rfl,R.size,fun t=>by
    rcases Fh f ls t with e | e
    ·rw [e];exact (R.tmp t).mono (aL.wz R.heap.none)
    ·rw [e];exact .any _⟩
  have hr:=R.ev aH
  rw [hx] at hr
  generalize hy:a.eval g=y at hr
  cases hr with
  | func _ s1 s2 r1 r2=>
   rename_i Qf Ii
   obtain ⟨d,axi,awJ⟩:=aEm (w:=((w.alloc (.deferred (some []))).alloc (.loop { state:=.ready,pending:=none,fn,tmps:=a.tmps,params:=ps,assign:=kj,body,defers:=w.heap.size }))) mV a g hy (w.heap.size+1)
   refine ⟨_,_,_,d,_,F,_,_,run_enterLoop_outer fn a.tmps ps kj body,axi,fun _ _=>trivial,awJ,fun h=>(by cases h),?_⟩
   have hle:=aL.wz (r:=⟨w.heap.size+1,0,0,P.cellsOf 0,0⟩) R.heap.none
   have sR:bF (ρ.add h.length ⟨w.heap.size+1,0,0,P.cellsOf 0,0⟩) (first.toList++[.func (.yield h.length) #[] #[]]++cap.toList) (Qf++#[Value.func (.yield (w.heap.size+1)) #[] #[]]++Ii).toList:=by
    have q1:=(bF.tF s1 r1).mono hle
    have q3:=(bF.tF s2 r2).mono hle
    have q2:bF (ρ.add h.length ⟨w.heap.size+1,0,0,P.cellsOf 0,0⟩) [.func (.yield h.length) #[] #[]] [.func (.yield (w.heap.size+1)) #[] #[]]:=
     .cons (ax.yield (i:=h.length) (r:=⟨w.heap.size+1,0,0,P.cellsOf 0,0⟩) (by simp [aL.add])) .nil
    simpa using (q1.append q2).append q3
   refine (ach (rO _ _ _ sR H1) none _).mono ?_
   rintro e w3 ⟨v',av,rfl,hv,H3,T3⟩
   have RW:av h.length=some ⟨w.heap.size+1,0,0,P.cellsOf 0,0⟩:=T3.ext _ _ (by simp [aL.add])
   obtain ⟨o,ho,rR⟩:=H3.obj _ _ RW
   rw [bT] at ho
   cases ho
   obtain ⟨rec,g1,g2,g3,g4,g5,g6,g7,g8⟩:=rR
   have gw:=run_endLoop (P:=P) g1 (by rw [g2];decide)
   refine ⟨_,_,gw,?_⟩
   split
   rotate_left
   ·rename_i c hc;rw [g3] at hc;cases hc
   have TT:=(T0.trans (T1.trans T3))
   have Hk:=H3.kill h.length
   have aw5:aY P av (h'.set h.length .dead) (w3.putObj (w.heap.size+1) (.loop { rec with state:=.exhausted })):=by
    refine Hk.put ?_ _
    intro j s hj hs vP
    obtain ⟨c,_,_,hc⟩:=Hk.afk g1 hj hs vP
    have bk:j≠h.length:=by
     rintro rfl
     rw [getElem?_set_self (H3.lt RW)] at hc
     cases hc
    rw [getElem?_set_ne (Ne.symm bk)] at hc
    exact bk (H3.inj _ _ _ _ hj RW hs (.inr (.inr (.inl ⟨_,_,_,hc⟩))) ⟨_,bT,by simp⟩)
   have TL:=TT.late (l:=w.heap.size+1) (by omega) (.loop { rec with state:=.exhausted }) h.length
   refine ⟨rfl,av,⟨R.size,?_,fun t=>(R.tmp t).mono TL.ext,aw5⟩,TL⟩
   have hD:(w3.putObj (w.heap.size+1) (.loop { rec with state:=.exhausted })).heap[w.heap.size]?=some (.deferred (some [])):=by
    rw [Az (by omega)]
    have e1:(w.alloc (.deferred (some []))).heap[w.heap.size]?=some (.deferred (some [])):=World.alloc_heap_new _ _
    have e2:=nb.old (k:=w.heap.size) (by omega)
    rw [T3.iy _ (by rw [nb.size];omega) ?_,e2,e1]
    intro j s hj hs hm
    exact H1.SX (e2.trans e1) hj hs hm.live
   refine ⟨⟨w.heap.size,rfl,marks.base R.defers,hD,?_⟩,marks.tr R.heap TL R.defers⟩
   intro d' lP he
   obtain ⟨D,e1,e2⟩:=marks.lt R.defers d' lP
   rw [e1] at he
   have:=afX he
   omega
 ·exact hi.elim
end
end
section
section
variable {P : Program} {N : Nat}
theorem aqx {a:mM} {g g':Operand→Value} (h:∀x∈a.iu,g x=g' x):lL a g=lL a g':=by
 cases a with
 | alloc e zs=>rfl
 | nP e n zs ps=>
  simp only [lL]
  rw [KK (ps:=ps) h]
 | make e b zs l c=>
  simp only [mM.iu,mem_cons,List.not_mem_nil,or_false,forall_eq_or_imp,forall_eq] at h
  simp only [lL,h.1,h.2]
 | pA g=>rfl
theorem aqy {a:mM} {g:Operand→Value} {V:Nat→Value} {o:aq} (h:lL a g=some (V,o)) {ρ av:aL} {i j:Nat} {v':Value} (e:av j=ρ i) (hv:ax ρ (V i) v'):ax av (V j) v':=by
 have ptr:V=(fun i=>.pointer (some ⟨i,0,none⟩))→ax av (V j) v':=by
  rintro rfl
  cases hv with
  | ptr hr=>exact .ptr (by rw [e];exact hr)
 have slc:∀t n,V=(fun i=>sl t i 0 n)→ax av (V j) v':=by
  rintro t n rfl
  cases hv with
  | slice hr a b c d=>exact .slice (by rw [e];exact hr) a b c d
 have mp:V=(fun i=>.map (some i))→ax av (V j) v':=by
  rintro rfl
  cases hv with
  | map hr=>exact .map (by rw [e];exact hr)
 cases a with
 | pA g=>simp [lL] at h;exact mp h.1.symm
 | alloc t zs=>simp [lL] at h;exact ptr h.1.symm
 | nP t n zs ps=>simp only [lL,map_eq_some_iff,Prod.mk.injEq] at h;obtain ⟨_,_,h1,_⟩:=h;exact slc t n h1.symm
 | make t b zs l c=>
  simp only [lL] at h
  split at h
  ·split at h
   ·simp at h;exact slc t _ h.1.symm
   ·cases h
  ·cases h
theorem P5 {i:Nat} {o:aq} {u:Value} (h:pP i o=some u):(∃e xs,o=.arr e xs∧(∀x∈xs,sg i x=true)∧u=.agg (.int .i64 e::xs).toArray)∨∃g,o=.di g 0 []∧u=.tuple #[D8 g]:=by
 unfold pP at h
 split at h
 ·rename_i e xs
  split at h
  ·rename_i hx
   rw [all_eq_true] at hx
   injection h with h
   exact .inl ⟨e,xs,rfl,hx,h.symm⟩
  ·cases h
 ·rename_i g c es
  split at h
  ·rename_i hc
   obtain ⟨rfl,hc⟩:=hc
   rw [List.isEmpty_iff] at hc
   subst hc
   injection h with h
   exact .inr ⟨g,rfl,h.symm⟩
  ·cases h
 ·cases h
theorem av8 {g g':fR} (h:D8 g=D8 g'):g=g':=by
 cases g <;> cases g' <;> simp [D8] at h <;> first | rfl | (subst h;rfl) | (obtain ⟨rfl,h⟩:=h;rw [Int.ofNat.inj h]) | (have:=Int.ofNat.inj h.2;rw [h.1,this])
theorem avC {i:Nat} {o o':aq} {u:Value} (h:pP i o=some u) (h':pP i o'=some u):o=o':=by
 rcases P5 h with ⟨e,xs,rfl,_,h1⟩ | ⟨g,rfl,h1⟩ <;> rcases P5 h' with ⟨e',xs',rfl,_,h2⟩ | ⟨g',rfl,h2⟩
 ·rw [h1] at h2
  simp at h2
  obtain ⟨h3,h4⟩:=h2
  have Bv:e=e':=Int.ofNat.inj h3
  rw [Bv,h4]
 ·rw [h1] at h2;cases h2
 ·rw [h1] at h2;cases h2
 ·rw [h1] at h2
  simp at h2
  rw [av8 h2]
theorem sg.rel {ρ av:aL} {i:Nat} {v v':Value} (h:sg i v=true) (hle:∀k,k<i→∀r,ρ k=some r→av k=some r) (hv:ax ρ v v'):ax av v v':=by
 unfold sg at h
 rw [or_eq_true] at h
 rcases h with h | h
 ·exact xW.rel h hv
 ·split at h
  ·have hk:=of_decide_eq_true h
   cases hv with
   | slice hr a b c d=>exact .slice (hle _ hk _ hr) a b c d
  ·cases h
theorem lE.sg {ρ av:aL} {w:World} {r:RI} {o:aq} {i:Nat} (hx:(pP i o).isSome=true) (hle:∀k,k<i→∀r,ρ k=some r→av k=some r) (h:lE ρ w r o):lE av w r o:=by
 obtain ⟨u,hu⟩:=Option.isSome_iff_exists.1 hx
 rcases P5 hu with ⟨e,xs,rfl,hx,_⟩ | ⟨g,rfl,_⟩
 ·obtain ⟨h1,h0,c,h2,h3,h4⟩:=h
  refine ⟨h1,h0,c,h2,h3,fun j x hj=>?_⟩
  obtain ⟨c1,y,hy,hr⟩:=h4 j x hj
  exact ⟨c1,y,hy,Go.Sim.sg.rel (hx x (mem_of_getElem? hj)) hle hr⟩
 ·obtain ⟨h0,aK,h1,h2,h3⟩:=h
  exact ⟨h0,aK,h1,h2,fun j b k v hj=>by simp at hj⟩
theorem aY.take {ρ av:aL} {h:ae} {w w':World} {o:aq} {p:Nat} (R:aY P ρ h w) (hp:h[p]?=some o) (hx:(pP p o).isSome=true) (hn:ρ p=Option.none)
  (H':aY P av (h++[o]) w') (T:Tr ρ h w av (h++[o]) w'):aY P (fun k=>if k=p then av h.length else ρ k) h w':=by
 have m9:=(bD hp).1
 have new:(h++[o])[h.length]?=some o:=by simp
 have old:∀k,k<h.length→(h++[o])[k]?=h[k]?:=fun k hk=>getElem?_append_left hk
 have hle:ρ.le fun k=>if k=p then av h.length else ρ k:=by
  intro k r hr
  have:k≠p:=by rintro rfl;rw [hn] at hr;cases hr
  simp [this,hr]
 have mt:∀k,k<h.length→(cA h k↔cA (h++[o]) k):=fun k hk=>by unfold cA;rw [old k hk]
 have E1:∀k,k<h.length→(eR h k↔eR (h++[o]) k):=fun k hk=>by unfold eR;rw [old k hk]
 have back:∀k,k<p→∀r,av k=some r→(fun k=>if k=p then av h.length else ρ k) k=some r:=by
  intro k hk r hr
  have bk:k≠p:=by omega
  simp only [if_neg bk]
  cases hq:ρ k with
  | none=>
   have:=(T.fresh k r hr hq).1
   omega
  | some r'=>
   have:=T.ext k r' hq
   rw [hr] at this
   exact this.symm
 have SP:cA h p↔cA (h++[o]) h.length:=by unfold cA;rw [new,hp]
 have SC:eR h p↔eR (h++[o]) h.length:=by unfold eR;rw [new,hp]
 refine ⟨?_,?_,?_⟩
 ·intro k r hr
  by_cases hk:k=p
  ·subst hk
   simp only [if_true] at hr
   obtain ⟨o',dL,nL⟩:=H'.obj _ r hr
   rw [new] at dL
   cases dL
   exact ⟨_,hp,lE.sg hx back nL⟩
  ·simp only [if_neg hk] at hr
   obtain ⟨o',dL,nL⟩:=R.obj k r hr
   obtain ⟨o2,EB,Rt⟩:=H'.obj k r (T.ext k r hr)
   rw [old k (R.lt hr),dL] at EB
   cases EB
   exact ⟨o',dL,(nL.down T.ext Rt).mono hle rfl⟩
 ·intro a b r s ha hb nc hm hl
  by_cases ea:a=p <;> by_cases eb:b=p
  ·omega
  ·subst ea
   simp only [if_true] at ha
   simp only [if_neg eb] at hb
   have xv:=R.lt hb
   have:=H'.inj h.length b r s ha (T.ext b s hb) nc (SP.1 hm) ((E1 b xv).1 hl)
   omega
  ·subst eb
   simp only [if_true] at hb
   simp only [if_neg ea] at ha
   have oB:=R.lt ha
   have:=H'.inj a h.length r s (T.ext a r ha) hb nc ((mt a oB).1 hm) (SC.1 hl)
   omega
  ·simp only [if_neg ea] at ha
   simp only [if_neg eb] at hb
   exact H'.inj a b r s (T.ext a r ha) (T.ext b s hb) nc ((mt a (R.lt ha)).1 hm) ((E1 b (R.lt hb)).1 hl)
 ·intro k r hr
  by_cases hk:k=p
  ·subst hk;simp only [if_true] at hr;exact H'.aW _ r hr
  ·simp only [if_neg hk] at hr;exact R.aW k r hr
theorem Tr.take {AS ρ av:aL} {hb h:ae} {wb w w':World} {o:aq} {p:Nat} (TB:Tr AS hb wb ρ h w) (hpb:hb.length≤p) (hn:ρ p=Option.none) (T:Tr ρ h w av (h++[o]) w'):
  Tr AS hb wb (fun k=>if k=p then av h.length else ρ k) h w':=by
 have TT:=TB.trans T
 exact {
  ext:=by
   intro k r hr
   have:=TB.ext k r hr
   have hk:k≠p:=by rintro rfl;rw [hn] at this;cases this
   simp [hk,this]
  len:=TB.len
  jG:=TB.jG
  kinds:=TB.kinds
  fresh:=by
   intro k r hr fV
   by_cases hk:k=p
   ·subst hk
    simp only [if_true] at hr
    have hbn:AS h.length=none:=by
     cases hq:AS h.length with
     | none=>rfl
     | some q=>have:=TB.jG _ _ hq;have:=TB.len;omega
    exact ⟨hpb,(TT.fresh _ r hr hbn).2⟩
   ·simp only [if_neg hk] at hr
    exact TB.fresh k r hr fV
  iP:=TT.iP
  iy:=TT.iy
  os:=TT.os
  tape:=TT.tape
  output:=TT.output }
theorem Bp {l:List cU} {F:Nat→Nat→Value} {H:Nat→ae} {V:Nat→Value} (T:Trace P l 0 F H V) {q:Nat} {d:cU} {a:mM} (hq:l[q]?=some d) (ho:d.op.op=.e (.fl a)) (hg:d.op.guard=none):
  ∃Vf o,lL a (ev (F q))=some (Vf,o)∧V q=Vf (H q).length∧H (q+1)=H q++[o]∧(pP (H q).length o).isSome=true∧eL (H (q+1)) (V q)=pP (H q).length o∧
   ∀e' oe,l[e']?=some oe→oe.op.op.dF=true→q<e'→oe.pre.testBit q=false→eL (H (e'+1)) (V q)=pP (H q).length o:=by
 have hw:iO d.op.guard (F (0+q))=true:=by rw [hg];rfl
 have hy:=T.yes q d hq hw
 obtain ⟨u,u1,u2⟩:=T.flo q d a hq ho hw
 simp only [zero_add] at hy u1 u2
 rw [ho] at hy
 simp only [dd,nQ,ae8] at hy
 cases oB:lL a (ev (F q)) with
 | none=>rw [oB] at hy;exact hy.elim
 | some p=>
  obtain ⟨Vf,o⟩:=p
  rw [oB] at hy
  simp only [map_some] at hy
  obtain ⟨h1,h2⟩:=hy
  have iH:=OI oB (H q).length
  rw [h1] at iH
  have Ek:eL (H (q+1)) (V q)=pP (H q).length o:=by
   unfold eL
   rw [iH,←h2]
   simp
  rw [Ek] at u1
  exact ⟨Vf,o,rfl,h1.symm,h2.symm,by rw [u1];rfl,Ek,fun e' oe he hE aD hp=>(u2 e' oe he hE aD hp).trans u1.symm⟩
def M0 (l:List cU) (S:List Nat) (m:Nat):Prop:=∀e oe,l[e]?=some oe→oe.op.op.dF=true→iL oe=false→(e∈S↔e<m)
theorem Ae {o:cU}:iL o=true↔∃a,o.op.op=.e (.fl a):=by
 unfold iL
 constructor
 ·intro h
  split at h
  ·rename_i a ha;exact ⟨a,ha⟩
  ·cases h
 ·rintro ⟨a,ha⟩;rw [ha]
structure Laid (P:Program) (N:Nat) (ops:Array Oper) (l:List cU) (perm:Nat→Nat) (mF:Nat):Prop where
 len:l.length=ops.size
 lt:∀q,q<ops.size→perm q<ops.size
 inj:∀q k,q<ops.size→k<ops.size→perm q=perm k→q=k
 sur:∀j,j<ops.size→∃q,q<ops.size∧perm q=j
 comp:∀q o d,ops[perm q]?=some o→l[q]?=some d→∃x,yM P N ops o=some x∧x.dst=d.op.dst∧x.guard=d.op.guard∧tmpsOf x.op.iu=tmpsOf d.op.op.iu∧((iL d=false∧x.op=d.op.op)∨∃a,x.op=.e a.FV∧d.op.op=.e (.fl a)∧d.op.guard=none)
 pre:∀q d,l[q]?=some d→∀k,k<ops.size→d.pre.testBit k=((jF (ops.toList.map fq) []).getD (perm q) 0).testBit (perm k)
 back:∀j e,e∈(ops.toList.map fq).getD j []→e<j
 Cy:∀i j oi oj,l[i]?=some oi→l[j]?=some oj→Cw oj j oi i=true
 head:mF≤l.length
 low:∀q d,l[q]?=some d→q<mF→d.op.op.dF=true→iL d=true
 high:∀q d,l[q]?=some d→mF≤q→iL d=false
theorem akJ {oi oj:cU} {i j t:Nat} (h:Cw oj j oi i=true) (bk:i≠j) (hd:oi.op.dst=some t) (ht:uN oj t=true):(if i<j then oj.pre.testBit i else oi.pre.testBit j)=true:=by
 unfold Cw at h
 rw [hd] at h
 simp only [and_eq_true,or_eq_true,beq_iff_eq,ht,Bool.not_true,Bool.false_eq_true,false_or] at h
 rcases h.1 with h | h
 ·exact absurd h bk
 ·exact h
theorem Uy {oi oj:cU} {i j:Nat} (h:Cw oj j oi i=true) (aD:i<j) (hi:oi.op.op.dF=true) (hj:oj.op.op.dF=true) (fi:iL oi=false) (fj:iL oj=false):oj.pre.testBit i=true:=by
 unfold Cw at h
 simp only [and_eq_true,aD,decide_true,hi,hj,fi,fj,Bool.and_self,Bool.not_true,Bool.not_false,Bool.false_or] at h
 exact h.2
theorem xC {ops:Array Oper} {l:List cU} {perm:Nat→Nat} {mF:Nat} (L:Laid P N ops l perm mF) (nH:∀(q:Nat) (d:cU),l[q]?=some d→iL d=true→d.op.guard=none) {F:Nat→Nat→Value} {H:Nat→ae} {V:Nat→Value} (T:Trace P l 0 F H V) {k:Nat}:∀(d:Nat),k+d≤mF→∃os,H (k+d)=H k++os
 | 0,_=>⟨[],by simp⟩
 | d+1,hd=>by
  obtain ⟨os,iI⟩:=xC L nH T (k:=k) d (by omega)
  have aD:k+d<l.length:=by have:=L.head;omega
  have bT:l[k+d]?=some l[k+d]:=getElem?_eq_getElem aD
  rw [show k+(d+1)=k+d+1 by omega]
  cases hE:l[k+d].op.op.dF with
  | true=>
   have hf:=L.low (k+d) _ bT (by omega) hE
   obtain ⟨a,ha⟩:=Ae.1 hf
   obtain ⟨_,oo,_,_,h3,_⟩:=Bp T bT ha (nH _ _ bT hf)
   exact ⟨os++[oo],by rw [h3,iI];simp⟩
  | false=>
   have:=Me T (i:=k+d) 1 (by omega) (fun e oe h1 h2 h3=>by
    have:e=k+d:=by omega
    subst this
    rw [bT] at h1
    cases h1
    rw [hE] at h2
    cases h2)
   exact ⟨os,by rw [this,iI]⟩
theorem auH {ops:Array Oper} {l:List cU} {perm:Nat→Nat} {mF:Nat} (L:Laid P N ops l perm mF) (nH:∀(q:Nat) (d:cU),l[q]?=some d→iL d=true→d.op.guard=none) {F:Nat→Nat→Value} {H:Nat→ae} {V:Nat→Value} (T:Trace P l 0 F H V)
  {AS:aL} {wb:World} {S r:List Nat} (hv:yy ops S r):
  C8 (ops.toList.map fq) S→(∀i∈S,i<ops.size)→∀Sp,(∀q,q∈Sp↔q<ops.size∧perm q∈S)→∀m,mF≤m→m≤l.length→M0 l Sp m→∀S' B ρ a w,ee P N B ρ (eI V Sp l 0 (F 0)) (H m) a w→(H mF).length≤(H m).length→
   (∀(q:Nat) (d:cU),l[q]?=some d→iL d=true→q∉Sp→ρ (H q).length=none∧eL (H m) (V q)=eL (H (q+1)) (V q))→Tr AS (H 0) wb ρ (H m) w→∀Q:Exit→Act→World→Prop,
   (∀av a' w',ee P N B av (F l.length) (H l.length) a' w'→Tr AS (H 0) wb av (H l.length) w'→Q .normal a' w')→wpOpsIn (FR S') 0 P ops Q r a w:=by
 induction hv with
 | nil fJ=>
  rename_i S
  intro fU aD Sp Bx m Eu hm bK S' B ρ a w R _ _ TB Q hq
  have iW:∀q,q<l.length→q∈Sp:=fun q hq=>(Bx q).2 ⟨by rw [←L.len];exact hq,fJ _ (L.lt q (by rw [←L.len];exact hq))⟩
  have hF:eI V Sp l 0 (F 0)=F l.length:=by
   have h1:=D6 T l 0 (List.range l.length) l.length (fun k=>by simp) (fun k=>by simp) (by omega) (by omega)
   rw [←h1]
   funext t
   refine xl (fun k d hk _=>?_) rfl
   have gv:=(bD hk).1
   simp only [zero_add,mem_range]
   exact ⟨fun _=>gv,fun _=>iW k gv⟩
  have hH:H l.length=H m:=by
   refine rB T hm (le_refl _) ?_
   rintro e oe he hE ⟨h1,h2⟩
   have:=(bK e oe he hE (L.high e oe he (by omega))).1 (iW e h2)
   omega
  rw [hF] at R
  simp only [wpOpsIn]
  exact hq ρ a w (by rw [hH];exact R) (by rw [hH];exact TB)
 | cons vU vT zw hvr ih=>
  rename_i S j0 o r
  intro fU aD Sp Bx m Eu hm bK S' B ρ a w R hlen qH TB Q hq
  have ad7:j0<ops.size:=(Array.getElem?_eq_some_iff.1 vU).1
  obtain ⟨j,vM,nJ⟩:=L.sur j0 ad7
  have pW:j<l.length:=by rw [L.len];exact vM
  have bT:l[j]?=some (l[j]'pW):=getElem?_eq_getElem _
  generalize hd0:l[j]'pW=d at bT
  obtain ⟨x,hc,x1,x2,x3,x4⟩:=L.comp j o d (by rw [nJ];exact vU) bT
  obtain ⟨q1,q2,q3,q4,q5⟩:=DK hc
  rw [x2] at q4
  rw [x1] at q5
  have Rh:j∉Sp:=fun h=>vT (by rw [←nJ];exact ((Bx j).1 h).2)
  have jj:(ops.toList.map fq).getD j0 []=fq o:=by
   simp [getD,vU]
  have uc:C8 (ops.toList.map fq) (j0::S):=by
   intro k e hk he
   rcases mem_cons.1 hk with rfl | hk
   ·rw [jj] at he
    exact mem_cons_of_mem _ (zw e he)
   ·exact mem_cons_of_mem _ (fU k e hk he)
  have Ed:∀q,q∈j::Sp↔q<ops.size∧perm q∈j0::S:=by
   intro q
   rw [mem_cons,mem_cons,Bx]
   constructor
   ·rintro (rfl | ⟨h1,h2⟩)
    ·exact ⟨vM,.inl nJ⟩
    ·exact ⟨h1,.inr h2⟩
   ·rintro ⟨h1,h2 | h2⟩
    ·exact .inl (L.inj q j h1 vM (h2.trans nJ.symm))
    ·exact .inr ⟨h1,h2⟩
  have before:∀i,i<ops.size→d.pre.testBit i=true→i∈Sp:=by
   intro i hi hb
   rw [L.pre j d bT i hi,nJ] at hb
   exact (Bx i).2 ⟨hi,KQ fU L.back j0 (perm i) (by rw [jj];exact zw) hb⟩
  have behind:∀k dk,l[k]?=some dk→dk.pre.testBit j=true→k∉Sp:=by
   intro k dk hk hb Es
   have hkn:k<ops.size:=by rw [←L.len];exact (bD hk).1
   rw [L.pre k dk hk j vM,nJ] at hb
   have awR:=((Bx k).1 Es).2
   exact vT (KQ fU L.back (perm k) j0 (fun e he=>fU (perm k) e awR he) hb)
  have jX:∀{k dk},l[k]?=some dk→k<ops.size:=fun hk=>by rw [←L.len];exact (bD hk).1
  have slot:∀t,uN d t=true→eI V Sp l 0 (F 0) t=F j t:=by
   intro t ht
   have h1:=D6 T l 0 (List.range j) j (fun k=>by simp) (fun k=>by simp) (by omega) (by omega)
   rw [←h1]
   refine xl (fun k dk hk zt=>?_) rfl
   simp only [zero_add,mem_range]
   by_cases pX:k=j
   ·subst pX
    exact ⟨fun h=>absurd h Rh,fun h=>absurd h (Nat.lt_irrefl _)⟩
   ·have hp:=akJ (L.Cy k j dk d hk bT) pX zt ht
    by_cases mX:k<j
    ·rw [if_pos mX] at hp
     exact ⟨fun _=>mX,fun _=>before k (jX hk) hp⟩
    ·rw [if_neg mX] at hp
     exact ⟨fun h=>absurd h (behind k dk hk hp),fun h=>absurd h mX⟩
  have zO:∀t∈d.op.reads,eI V Sp l 0 (F 0) t=F j t:=fun t ht=>slot t (by simp [uN,ht])
  have BT:∀t∈tmpsOf d.op.op.iu,eI V Sp l 0 (F 0) t=F j t:=fun t ht=>zO t (by simp [iT.reads,ht])
  have EO:iO d.op.guard (eI V Sp l 0 (F 0))=iO d.op.guard (F j):=by
   cases hg:d.op.guard with
   | none=>rfl
   | some sb=>
    obtain ⟨s,b⟩:=sb
    simp only [iO]
    rw [zO s (by simp [iT.reads,hg])]
  have Q3:sP d.op.guard (eI V Sp l 0 (F 0)):=by
   have:=T.QA j d bT
   simp only [zero_add] at this
   cases hg:d.op.guard with
   | none=>trivial
   | some sb=>
    obtain ⟨s,b⟩:=sb
    rw [hg] at this
    simp only [sP] at this⊢
    rw [zO s (by simp [iT.reads,hg])]
    exact this
  have EP:=F0 q4 R Q3
  have jz:eI V (j::Sp) l 0 (F 0)=dG (eI V Sp l 0 (F 0)) o.dst (V j):=by
   rw [←q5]
   funext t
   by_cases mA:d.op.dst=some t
   ·have h1:=Qm (V:=V) (S:=j::Sp) (l:=l) (i:=0) (f:=F 0) (k:=j) (d:=d) bT mA (by simp) (by
     intro k' d' b9 lP mX
     have hp:=akJ (L.Cy k' j d' d b9 bT) (by omega) lP (by simp [uN,mA])
     rw [if_neg (by omega)] at hp
     have:=behind k' d' b9 hp
     simp only [zero_add,mem_cons,not_or]
     exact ⟨by omega,this⟩)
    rw [h1]
    simp [mA,dG,tH]
   ·have h1:eI V (j::Sp) l 0 (F 0) t=eI V Sp l 0 (F 0) t:=by
     refine xl (fun k dk hk zt=>?_) rfl
     have pX:k≠j:=by
      rintro rfl
      rw [bT] at hk
      cases hk
      exact mA zt
     simp [pX]
    rw [h1]
    cases xy:d.op.dst with
    | none=>rfl
    | some y=>
     have:t≠y:=by rintro rfl;exact mA xy
     simp [dG,tH,this]
  have mY:∀i∈j0::S,i<ops.size:=by
   intro i hi
   rcases mem_cons.1 hi with rfl | hi
   ·exact ad7
   ·exact aD i hi
  -- aFW still to auq stay vf aGF are
  have FL:∀q dq,l[q]?=some dq→iL dq=true→q<mF:=by
   intro q dq hq hf
   apply byContradiction
   intro h
   rw [L.high q dq hq (by omega)] at hf
   cases hf
  have aDs:∀q dq,l[q]?=some dq→iL dq=true→(H q).length<(H mF).length:=by
   intro q dq hq hf
   have hqm:=FL q dq hq hf
   obtain ⟨a,ha⟩:=Ae.1 hf
   obtain ⟨_,oo,_,_,h3,_⟩:=Bp T hq ha (nH _ _ hq hf)
   obtain ⟨os,iI⟩:=xC L nH T (k:=q+1) (mF-(q+1)) (by omega)
   rw [show q+1+(mF-(q+1))=mF by omega,h3] at iI
   rw [iI]
   simp
  have afs:∀{av:aL} {h':ae} {w':World},Tr ρ (H m) w av h' w'→∀q dq,l[q]?=some dq→iL dq=true→ρ (H q).length=none→av (H q).length=none:=by
   intro av h' w' TT q dq hq hf hn
   cases hr:av (H q).length with
   | none=>rfl
   | some s=>
    have:=(TT.fresh _ s hr hn).1
    have:=aDs q dq hq hf
    omega
  -- gN FQ,where gN azQ writes memory
  have FT:d.op.op.dF=true→iL d=false→mF≤j∧H m=H j∧M0 l (j::Sp) (j+1):=by
   intro hE rQ
   have Ep:mF≤j:=by
    apply byContradiction
    intro h
    rw [L.low j d bT (by omega) hE] at rQ
    cases rQ
   have qK:m≤j:=by
    apply byContradiction
    intro h
    exact Rh ((bK j d bT hE rQ).2 (by omega))
   refine ⟨Ep,?_,?_⟩
   ·refine (rB T qK (by omega) ?_).symm
    rintro e oe he mo ⟨h1,h2⟩
    have vL:=L.high e oe he (by omega)
    have hb:=Uy (L.Cy e j oe d he bT) h2 mo hE vL rQ
    have:=(bK e oe he mo vL).1 (before e (jX he) hb)
    omega
   ·intro e oe he mo vL
    rcases Nat.lt_trichotomy e j with mX | rfl | sV
    ·have hb:=Uy (L.Cy e j oe d he bT) mX mo hE vL rQ
     exact ⟨fun _=>by omega,fun _=>mem_cons_of_mem _ (before e (jX he) hb)⟩
    ·exact ⟨fun _=>by omega,fun _=>by simp⟩
    ·have hb:=Uy (L.Cy j e d oe bT he) sV hE mo rQ vL
     have:=behind e oe he hb
     constructor
     ·intro h
      rcases mem_cons.1 h with h | h
      ·omega
      ·exact absurd h this
     ·intro h;omega
  have CI:(d.op.op.dF=false∨iL d=true)→M0 l (j::Sp) m:=by
   intro hE e oe he mo vL
   have bk:e≠j:=by
    rintro rfl
    rw [bT] at he
    cases he
    rcases hE with hE | hE
    ·rw [hE] at mo;cases mo
    ·rw [hE] at vL;cases vL
   rw [←bK e oe he mo vL]
   simp [bk]
  have ES:=T.yes j d bT
  have dC:=T.no j d bT
  simp only [zero_add] at ES dC
  simp only [wpOpsIn,vU]
  by_cases hw:iO d.op.guard (F j)=true
  ·rw [if_pos (by rw [EP,EO,hw])]
   have hs:=ES hw
   rcases x4 with ⟨rQ,Wd⟩ | ⟨aa,Wd,PX,dg⟩
   ·rw [Wd] at q3
    by_cases hE:d.op.op.dF=true
    ·obtain ⟨e0,e1,e2⟩:=FT hE rQ
     rw [←Lm BT,←e1] at hs
     obtain ⟨v,h',st,hv,hh⟩:=Av (N:=N) q3 q1 hs
     subst hv
     subst hh
     refine st S' B ρ a w R _ _ ?_
     intro av v' w' vZ HH TT
     have R':=R.uF q2 TT vZ HH
     rw [←jz] at R'
     refine ih uc mY (j::Sp) Ed (j+1) (by omega) (by omega) e2 S' B av _ w' R' (Nat.le_trans hlen TT.len) ?_ (TB.trans TT) Q hq
     intro q dq gK hf qN
     have hqS:q∉Sp:=fun h=>qN (mem_cons_of_mem _ h)
     obtain ⟨i1,i2⟩:=qH q dq gK hf hqS
     refine ⟨afs TT q dq gK hf i1,?_⟩
     obtain ⟨a',km⟩:=Ae.1 hf
     obtain ⟨_,oo,_,_,_,_,h5,h6⟩:=Bp T gK km (nH _ _ gK hf)
     rw [h5]
     refine h6 j d bT hE (by have:=FL q dq gK hf;omega) ?_
     cases hb:d.pre.testBit q with
     | false=>rfl
     | true=>exact absurd (before q (jX gK) hb) hqS
    ·have fT:d.op.op.dF=false:=by simpa using hE
     -- uO is looked at has one value at this FQ and in gN aGq order
     have dX:dd P d.op.op (eI V Sp l 0 (F 0)) (H m) fun v h'=>v=V j∧h'=H m:=by
      rw [Lm BT]
      cases cZ:d.op.op with
      | p po=>
       rw [cZ] at hs
       simp only [dd,fD] at hs⊢
       split at hs
       ·exact ⟨hs.1,trivial⟩
       ·exact hs.elim
      | l lo=>
       have B1:fC lo (ev (F j)) (H j)=some (V j):=by
        rw [cZ] at hs
        simp only [dd,fD] at hs
        split at hs
        ·rename_i v hv
         rw [hv,hs.1]
        ·exact hs.elim
       -- from a place at or behind gN head,to a FQ before it
       have down:mF≤j→m≤j→fC lo (ev (F j)) (H m)=some (V j):=by
        intro Ep qK
        by_cases hex:∃e oe,l[e]?=some oe∧oe.op.op.dF=true∧m≤e∧e<j
        ·have key:∀n,(∃e oe,l[e]?=some oe∧oe.op.op.dF=true∧m≤e∧e<j∧e<n)→∃e oe,l[e]?=some oe∧oe.op.op.dF=true∧m≤e∧e<j∧∀e' jr,l[e']?=some jr→jr.op.op.dF=true→¬(m≤e'∧e'<e):=by
          intro n
          induction n with
          | zero=>rintro ⟨e,oe,_,_,_,_,h⟩;omega
          | succ n th=>
           rintro ⟨e,oe,h1,h2,h3,h4,h5⟩
           by_cases eD:∃e oe,l[e]?=some oe∧oe.op.op.dF=true∧m≤e∧e<j∧e<n
           ·exact th eD
           ·refine ⟨e,oe,h1,h2,h3,h4,?_⟩
            rintro e' jr k1 k2 ⟨k3,k4⟩
            exact eD ⟨e',jr,k1,k2,k3,by omega,by omega⟩
         obtain ⟨e0,Au,g1,g2,g3,g4⟩:=hex
         obtain ⟨e,oe,h1,h2,h3,h4,h5⟩:=key j ⟨e0,Au,g1,g2,g3,g4,g4⟩
         have yY:H e=H m:=rB T h3 (by omega) (fun e' jr k1 k2 k3=>h5 e' jr k1 k2 k3)
         rw [←yY]
         have vS:d.pre.testBit e=false:=by
          cases hb:d.pre.testBit e with
          | false=>rfl
          | true=>
           have:=(bK e oe h1 h2 (L.high e oe h1 (by omega))).1 (before e (jX h1) hb)
           omega
         have:=T.UF e oe j d lo h1 h2 bT cZ (by simpa using hw) h4 (by simpa using vS)
         simpa using this
        ·have yZ:H j=H m:=rB T qK (by omega) (fun e oe h1 h2 h3=>hex ⟨e,oe,h1,h2,h3⟩)
         rw [←yZ]
         exact B1
       -- to a FQ behind it,from where gN value is known
       have up:∀b,j≤b→mF≤b→b≤m→fC lo (ev (F j)) (H b)=some (V j)→fC lo (ev (F j)) (H m)=some (V j):=by
        intro b hjb hbF BD hbv
        by_cases hex:∃e oe,l[e]?=some oe∧oe.op.op.dF=true∧b≤e∧e<m
        ·have key:∀n,(∃e oe,l[e]?=some oe∧oe.op.op.dF=true∧b≤e∧e<m∧m≤e+n)→∃e oe,l[e]?=some oe∧oe.op.op.dF=true∧b≤e∧e<m∧∀e' jr,l[e']?=some jr→jr.op.op.dF=true→¬(e+1≤e'∧e'<m):=by
          intro n
          induction n with
          | zero=>rintro ⟨e,oe,_,_,_,_,h⟩;omega
          | succ n th=>
           rintro ⟨e,oe,h1,h2,h3,h4,h5⟩
           by_cases eD:∃e oe,l[e]?=some oe∧oe.op.op.dF=true∧b≤e∧e<m∧m≤e+n
           ·exact th eD
           ·refine ⟨e,oe,h1,h2,h3,h4,?_⟩
            rintro e' jr k1 k2 ⟨k3,k4⟩
            exact eD ⟨e',jr,k1,k2,by omega,by omega,by omega⟩
         obtain ⟨e0,Au,g1,g2,g3,g4⟩:=hex
         obtain ⟨e,oe,h1,h2,h3,h4,h5⟩:=key m ⟨e0,Au,g1,g2,g3,g4,by omega⟩
         have bk:e≠j:=by
          rintro rfl
          rw [bT] at h1
          cases h1
          rw [fT] at h2
          cases h2
         have yY:H m=H (e+1):=rB T (by omega) hm (fun e' jr k1 k2 k3=>h5 e' jr k1 k2 k3)
         rw [yY]
         have vS:oe.pre.testBit j=false:=by
          cases hb:oe.pre.testBit j with
          | false=>rfl
          | true=>exact absurd ((bK e oe h1 h2 (L.high e oe h1 (by omega))).2 h4) (behind e oe h1 hb)
         have:=T.Qn j d lo e oe bT cZ (by simpa using hw) h1 h2 (by omega) (by simpa using vS)
         simpa using this
        ·have yZ:H m=H b:=rB T BD hm (fun e oe h1 h2 h3=>hex ⟨e,oe,h1,h2,h3⟩)
         rw [yZ]
         exact hbv
       have bU:fC lo (ev (F j)) (H m)=some (V j):=by
        by_cases Ep:mF≤j
        ·rcases Nat.le_total m j with qK | qK
         ·exact down Ep qK
         ·exact up j (le_refl _) Ep qK B1
        ·obtain ⟨os,iI⟩:=xC L nH T (k:=j) (mF-j) (by omega)
         rw [show j+(mF-j)=mF by omega] at iI
         refine up mF (by omega) (le_refl _) Eu ?_
         rw [iI]
         exact axS os B1
       simp [dd,fD,bU]
      | e eo=>rw [cZ] at fT;cases fT
      | call g args=>rw [cZ] at fT;cases fT
      | kY x args=>rw [cZ] at fT;cases fT
     obtain ⟨v,h',st,hv,hh⟩:=Av (N:=N) q3 q1 dX
     subst hv
     subst hh
     refine st S' B ρ a w R _ _ ?_
     intro av v' w' vZ HH TT
     have R':=R.uF q2 TT vZ HH
     rw [←jz] at R'
     refine ih uc mY (j::Sp) Ed m Eu hm (CI (.inl fT)) S' B av _ w' R' hlen ?_ (TB.trans TT) Q hq
     intro q dq gK hf qN
     obtain ⟨i1,i2⟩:=qH q dq gK hf (fun h=>qN (mem_cons_of_mem _ h))
     exact ⟨afs TT q dq gK hf i1,i2⟩
   ·-- a new azJ
    have hf:iL d=true:=Ae.2 ⟨aa,PX⟩
    obtain ⟨Vf,oo,h1,h2,h3,h4,h5,h6⟩:=Bp T bT PX dg
    obtain ⟨i1,i2⟩:=qH j d bT hf Rh
    have oB:lL aa (ev (eI V Sp l 0 (F 0)))=some (Vf,oo):=by
     rw [←h1]
     refine aqx (P7 fun t ht=>BT t ?_)
     rw [PX]
     exact ht
    have iH:=OI h1 (H j).length
    rw [←h2] at iH
    have aw0:(H m)[(H j).length]?=some oo:=by
     rw [h5] at i2
     unfold eL at i2
     rw [iH] at i2
     simp only [bind_some] at i2
     cases ho:(H m)[(H j).length]? with
     | none=>
      rw [ho] at i2
      obtain ⟨u,hu⟩:=Option.isSome_iff_exists.1 h4
      rw [hu] at i2
      cases i2
     | some o'=>
      rw [ho] at i2
      obtain ⟨u,Ek⟩:=Option.isSome_iff_exists.1 h4
      simp only [bind_some] at i2
      rw [avC (i2.trans Ek) Ek]
    have RE:dd P x.op (eI V Sp l 0 (F 0)) (H m) fun v h'=>v=Vf (H m).length∧h'=H m++[oo]:=by
     rw [Wd]
     simp only [dd,nQ,axR,ae8,oB,map_some]
     exact ⟨trivial,trivial⟩
    obtain ⟨v,h',st,hv,hh⟩:=Av (N:=N) q3 q1 RE
    subst hv
    subst hh
    refine st S' B ρ a w R _ _ ?_
    intro av v' w' vZ HH TT
    have HR:=R.heap.take aw0 h4 i1 HH TT
    have hle:ρ.le fun k=>if k=(H j).length then av (H m).length else ρ k:=by
     intro k s hk
     have:k≠(H j).length:=by rintro rfl;rw [i1] at hk;cases hk
     simp [this,hk]
    have R1:ee P N B (fun k=>if k=(H j).length then av (H m).length else ρ k) (eI V Sp l 0 (F 0)) (H m) a w':=⟨R.size,marks.tr R.heap TT R.defers,fun t=>(R.tmp t).mono hle,HR⟩
    have zS:ax (fun k=>if k=(H j).length then av (H m).length else ρ k) (V j) v':=by
     rw [h2]
     exact aqy h1 (by simp) vZ
    have R':=R1.uF q2 (Tr.refl HR) zS HR
    rw [←jz] at R'
    have hjb:(H 0).length≤(H j).length:=by
     obtain ⟨os,iI⟩:=xC L nH T (k:=0) j (by have:=FL j d bT hf;omega)
     rw [zero_add] at iI
     rw [iI];simp
    refine ih uc mY (j::Sp) Ed m Eu hm (CI (.inr hf)) S' B _ _ w' R' hlen ?_ (TB.take hjb i1 TT) Q hq
    intro q dq gK QY qN
    have hqj:q≠j:=fun h=>qN (by simp [h])
    obtain ⟨k1,k2⟩:=qH q dq gK QY (fun h=>qN (mem_cons_of_mem _ h))
    refine ⟨?_,k2⟩
    have bk:(H q).length≠(H j).length:=by
     have grow:∀{a b:Nat} {da:cU},l[a]?=some da→iL da=true→a<b→b<mF→(H a).length<(H b).length:=by
      intro a b da ha hfa hX hb
      obtain ⟨a',km⟩:=Ae.1 hfa
      obtain ⟨_,oo',_,_,g3,_⟩:=Bp T ha km (nH _ _ ha hfa)
      obtain ⟨os,iI⟩:=xC L nH T (k:=a+1) (b-(a+1)) (by omega)
      rw [show a+1+(b-(a+1))=b by omega,g3] at iI
      rw [iI]
      simp
     rcases Nat.lt_or_gt_of_ne hqj with h | h
     ·have:=grow gK QY h (FL j d bT hf);omega
     ·have:=grow bT hf h (FL q dq gK QY);omega
    simp [bk,k1]
  ·have qT:iO d.op.guard (F j)=false:=by simpa using hw
   rw [if_neg (by rw [EP,EO,qT];simp)]
   obtain ⟨n1,n2⟩:=dC qT
   have R':=R.uF q2 (Tr.refl R.heap) (ax.undef _) R.heap
   rw [n1] at jz
   rw [←jz] at R'
   have rQ:iL d=false:=by
    cases hf:iL d with
    | false=>rfl
    | true=>rw [nH j d bT hf] at qT;cases qT
   by_cases hE:d.op.op.dF=true
   ·obtain ⟨e0,e1,e2⟩:=FT hE rQ
    have e3:H (j+1)=H m:=by rw [n2,e1]
    refine ⟨fun _ _=>trivial,ih uc mY (j::Sp) Ed (j+1) (by omega) (by omega) e2 S' B ρ _ w (by rw [e3];exact R') (by rw [e3];exact hlen) ?_ (by rw [e3];exact TB) Q hq⟩
    intro q dq gK hf qN
    rw [e3]
    exact qH q dq gK hf (fun h=>qN (mem_cons_of_mem _ h))
   ·exact ⟨fun _ _=>trivial,ih uc mY (j::Sp) Ed m Eu hm (CI (.inl (by simpa using hE))) S' B ρ _ w R' hlen (fun q dq gK hf qN=>qH q dq gK hf (fun h=>qN (mem_cons_of_mem _ h))) TB Q hq⟩
end
end
section
section
variable {P : Program} {N : Nat}
theorem aus {op:Op} {a:mM} (h:iG P op=some (.fl a)):False:=by
 unfold iG at h
 split at h
 all_goals repeat' (split at h)
 all_goals first | (cases h;done) | (simp at h;done) | (simp only [map_eq_some_iff] at h;obtain ⟨_,_,h⟩:=h;cases h;done)
theorem auu {op:Op} {a:mM} (h:vz P op=some (.e (.fl a))):False:=by
 rcases PO h with ⟨po,e,_⟩ | ⟨lo,e,_⟩ | ⟨eo,e,he⟩ | ⟨g,args,at_,_,_,e⟩ | ⟨x,args,at_,_,e⟩
 ·cases e
 ·cases e
 ·cases e;exact aus he
 ·cases e
 ·cases e
theorem acC:∀{l:List Nat},Ix l=true→l.Nodup
 | [],_=>.nil
 | x::xs,h=>by
  simp only [Ix,and_eq_true] at h
  rw [nodup_cons]
  exact ⟨by simpa using h.1,acC h.2⟩
theorem afA {l:List cU} {fl:List Nat} {p0:List Nat}:∀{perm:List Nat},(∀i∈perm,i<l.length)→∀q:Nat,
  (perm.filterMap fun i=>(l[i]?).map fun o=>(⟨if fl.contains i then D4 o.op else o.op,JR o.pre p0 0⟩:cU))[q]?=(perm[q]?).bind fun i=>(l[i]?).map fun o=>⟨if fl.contains i then D4 o.op else o.op,JR o.pre p0 0⟩
 | [],_,q=>by simp
 | i::perm,h,q=>by
  have bn:i<l.length:=h i (by simp)
  have hi:l[i]?=some l[i]:=getElem?_eq_getElem bn
  rw [List.filterMap_cons,hi]
  simp only [map_some]
  cases q with
  | zero=>simp [hi]
  | succ q=>
   rw [List.getElem?_cons_succ,List.getElem?_cons_succ]
   exact afA (fun i hi=>h i (by simp [hi])) q
theorem aut {ops:Array Oper} {l:List cU} {perm:List Nat} (hc:Im P N ops=some (l,perm)):P.follows .mixedOrders=true∧yH ops.toList 0=true∧Laid P N ops l (fun q=>perm.getD q 0) (uf l)∧∀(q:Nat) (d:cU),l[q]?=some d→iL d=true→d.op.guard=none:=by
 unfold Im at hc
 split at hc
 ·rename_i ios Q7
  simp only at hc
  split at hc
  ·rename_i sU
   simp only [Option.some.injEq,Prod.mk.injEq] at hc
   obtain ⟨hl,hp⟩:=hc
   rw [hp] at hl sU
   rw [hl] at sU
   simp only [and_eq_true] at sU
   obtain ⟨⟨Ev,sS⟩,aH⟩:=sU
   obtain ⟨g1,g2⟩:=PN Q7
   have m9:(jF (ops.toList.map fq) []).length=ops.size:=by rw [Ig];simp
   have Rd:ios.length≤(jF (ops.toList.map fq) []).length:=by rw [Ig];simp [g1]
   obtain ⟨z1,z2⟩:=Wh Rd
   have hz:(oR ios (jF (ops.toList.map fq) [])).length=ops.size:=by rw [z1,g1];simp
   unfold okF at aH
   simp only [and_eq_true,beq_iff_eq] at aH
   obtain ⟨⟨⟨⟨⟨⟨⟨o1,o2⟩,o3⟩,o4⟩,o5⟩,o6⟩,o7⟩,o8⟩:=aH
   rw [m9] at o1 o2 o4 o7
   rw [all_eq_true] at o4 o5 o6 o7 o8
   have aD:∀i∈perm,i<ops.size:=fun i hi=>by simpa using o4 i hi
   have bT:∀q,q<ops.size→perm.getD q 0∈perm:=by
    intro q hq
    have:q<perm.length:=by omega
    rw [List.getD_eq_getElem?_getD,getElem?_eq_getElem this]
    exact List.getElem_mem this
   have ph:=acC o3
   have inj:∀q k,q<ops.size→k<ops.size→perm.getD q 0=perm.getD k 0→q=k:=by
    intro q k hq hk he
    have gK:q<perm.length:=by omega
    have b9:k<perm.length:=by omega
    rw [List.getD_eq_getElem?_getD,List.getD_eq_getElem?_getD,getElem?_eq_getElem gK,getElem?_eq_getElem b9] at he
    simp only [getD_some] at he
    have hp:=List.pairwise_iff_getElem.1 ph
    rcases Nat.lt_trichotomy q k with h | h | h
    ·exact absurd he (hp q k gK b9 h)
    ·exact h
    ·exact absurd he.symm (hp k q b9 gK h)
   have mem:∀{q d},l[q]?=some d→(d,q)∈l.zipIdx:=fun h=>List.mem_zipIdx_iff_getElem?.2 h
   refine ⟨Ev,sS,⟨o1,fun q hq=>aD _ (bT q hq),inj,?_,?_,?_,?_,?_,Nat.sub_le _ _,?_,?_⟩,?_⟩
   ·intro j hj
    have rP:j∈perm:=by
     apply byContradiction
     intro dC
     have rT:perm ⊆ (List.range ops.size).erase j:=by
      intro x hx
      have RO:x≠j:=by rintro rfl;exact dC hx
      rw [List.mem_erase_of_ne RO]
      exact mem_range.2 (aD x hx)
     have:=J3 ph rT
     rw [List.length_erase_of_mem (mem_range.2 hj),List.length_range] at this
     omega
    obtain ⟨q,hq,e⟩:=List.mem_iff_getElem.1 rP
    exact ⟨q,by omega,by rw [List.getD_eq_getElem?_getD,getElem?_eq_getElem hq,getD_some,e]⟩
   ·intro q o d ho hd
    have qN:q<ops.size:=by rw [←o1];exact (bD hd).1
    have gK:q<perm.length:=by omega
    have sX:=afA (l:=oR ios (jF (ops.toList.map fq) [])) (fl:=Qj (oR ios (jF (ops.toList.map fq) []))) (p0:=perm) (perm:=perm) (fun i hi=>by rw [hz];exact aD i hi) q
    have lR:=hl
    unfold afz at lR
    rw [lR,hd] at sX
    rw [getElem?_eq_getElem gK] at sX
    simp only [bind_some] at sX
    have Jo:perm.getD q 0=perm[q]:=by rw [List.getD_eq_getElem?_getD,getElem?_eq_getElem gK];rfl
    rw [Jo] at ho
    cases RQ:(oR ios (jF (ops.toList.map fq) []))[perm[q]]? with
    | none=>rw [RQ] at sX;cases sX
    | some dz=>
     rw [RQ] at sX
     simp only [map_some,Option.some.injEq] at sX
     have hx:=(z2 _ _ RQ).1
     have mV:=g2 _ o dz.op (by simpa using ho) hx
     obtain ⟨c1,c2,c3,c4,c5⟩:=DK mV
     have azC:∀a,dz.op.op≠ .e (.fl a):=by
      intro a e
      rw [e] at c3
      exact auu c3
     refine ⟨dz.op,mV,?_⟩
     have plain:d.op=dz.op→dz.op.dst=d.op.dst∧dz.op.guard=d.op.guard∧tmpsOf dz.op.op.iu=tmpsOf d.op.op.iu∧((iL d=false∧dz.op.op=d.op.op)∨∃a,dz.op.op=.e a.FV∧d.op.op=.e (.fl a)∧d.op.guard=none):=by
      intro e
      refine ⟨by rw [e],by rw [e],by rw [e],.inl ⟨?_,by rw [e]⟩⟩
      cases hf:iL d with
      | false=>rfl
      | true=>
       obtain ⟨a,ha⟩:=Ae.1 hf
       rw [e] at ha
       exact absurd ha (azC a)
     by_cases qH:(Qj (oR ios (jF (ops.toList.map fq) []))).contains perm[q]=true
     ·rw [if_pos qH] at sX
      have ue:d.op=D4 dz.op:=by rw [sX]
      unfold D4 at ue
      split at ue
      ·rename_i eo he hg
       split at ue
       ·rename_i a ha
        refine ⟨by rw [ue],by rw [ue,hg],?_,.inr ⟨a,by rw [he,amz ha],by rw [ue],by rw [ue]⟩⟩
        rw [ue,he,←amz ha]
        cases a <;> rfl
       ·exact plain ue
      ·exact plain ue
     ·rw [if_neg qH] at sX
      exact plain (by rw [sX])
   ·intro q d hd k hk
    have h1:=o7 (d,q) (mem hd)
    rw [all_eq_true] at h1
    have:=h1 k (mem_range.2 hk)
    simpa using this
   ·intro j e he
    by_cases hj:j<ops.size
    ·have hg:ops.toList[j]?=some ops[j]:=by simp [hj]
     have:(ops.toList.map fq).getD j []=fq ops[j]:=by simp [getD,hj]
     rw [this] at he
     have:=GX sS j ops[j] hg e he
     omega
    ·have:(ops.toList.map fq).getD j []=[]:=by simp [getD,le_of_not_lt hj]
     rw [this] at he
     simp at he
   ·intro i j oi oj hi hj
    have h1:=o5 (oj,j) (mem hj)
    rw [all_eq_true] at h1
    exact h1 (oi,i) (mem hi)
   ·intro q d hd hq hE
    have h1:=o6 (d,q) (mem hd)
    simp only at h1
    rw [if_pos hq,hE] at h1
    simpa using h1
   ·intro q d hd hq
    have h1:=o6 (d,q) (mem hd)
    simp only at h1
    rw [if_neg (by omega)] at h1
    simpa using h1
   ·intro q d hd hf
    have h1:=o8 (d,q) (mem hd)
    simp only [hf,Bool.not_true,Bool.false_or,Option.isNone_iff_eq_none] at h1
    exact h1
  ·cases hc
 ·cases hc
theorem axK {out:Bool} {id:Nat} {ops:Array Oper} {l:List cU} {perm:List Nat} {K:(Nat→Value)→ae→Prop} {f:Nat→Value} {h:ae} (hc:Im P N ops=some (l,perm)) (hi:lB P l 0 [] [] K f h):
  ∃f' h',gR P N out (.region id ops true) f h .normal f' h'∧K f' h':=by
 obtain ⟨Ev,sS,L,nH⟩:=aut hc
 obtain ⟨F,H,V,f1,f2,f3,T,_,_⟩:=R7 hi
 simp only [zero_add] at f3
 refine ⟨F l.length,H l.length,?_,f3⟩
 intro S hS B ρ a w R
 refine wpIn_region_draw ?_
 intro t
 have RC:Region.schedule (P.follows .mixedOrders) ops t=Region.linearise .any ops t:=by
  unfold Region.schedule
  rw [Ev]
  simp
 rw [RC]
 have bU:=afF sS t
 have Ez:∀(l:List cU) (i:Nat) (f:Nat→Value),eI V [] l i f=f:=by
  intro l
  induction l with
  | nil=>intro i f;rfl
  | cons a l ih=>intro i f;simp [eI,ih]
 obtain ⟨os,iI⟩:=xC L nH T (k:=0) (uf l) (by omega)
 rw [zero_add] at iI
 have R0:ee P N B ρ f h a { w with drawn:=w.drawn+1 }:=R.mono (Tr.drew R.heap _) (R.heap.drew _)
 have IY:H 0=h:=f2
 have TG:Tr ρ (H 0) w ρ (H (uf l)) { w with drawn:=w.drawn+1 }:=by
  rw [iI,IY]
  exact (Tr.drew R.heap _).trans (Tr.IN R0.heap os)
 have R1:ee P N B ρ (eI V [] l 0 (F 0)) (H (uf l)) a { w with drawn:=w.drawn+1 }:=by
  rw [Ez,f1,iI,IY]
  exact R0.mono (Tr.IN R0.heap os) (R0.heap.IN os)
 refine auH L nH T bU (fun j e hj=>by simp at hj) (fun i hi=>by simp at hi) [] (fun q=>by simp) (uf l) (le_refl _) L.head (fun e oe he _ hf=>?_) S B ρ a _ R1 (le_refl _) ?_ TG _ ?_
 ·constructor
  ·intro h;simp at h
  ·intro aD
   -- an effect at gN head is a float
   rename_i hE
   rw [L.low e oe he aD hE] at hf
   cases hf
 ·intro q d hq hf _
  obtain ⟨a',km⟩:=Ae.1 hf
  obtain ⟨_,oo,g1,g2,g3,_,g5,_⟩:=Bp T hq km (nH q d hq hf)
  have hqm:q<uf l:=by
   apply byContradiction
   intro h'
   rw [L.high q d hq (by omega)] at hf
   cases hf
  constructor
  ·obtain ⟨os',ED⟩:=xC L nH T (k:=0) q (by omega)
   rw [zero_add,IY] at ED
   cases hr:ρ (H q).length with
   | none=>rfl
   | some r=>
    have:=R.heap.lt hr
    rw [ED] at this
    simp at this
    omega
  ·obtain ⟨os',ED⟩:=xC L nH T (k:=q+1) (uf l-(q+1)) (by omega)
   rw [show q+1+(uf l-(q+1))=uf l by omega] at ED
   rw [ED]
   have iH:=OI g1 (H q).length
   rw [←g2] at iH
   unfold eL
   rw [iH]
   simp only [bind_some]
   rw [getElem?_append_left (by rw [g3];simp)]
 ·intro av a' w' R' T'
  refine ⟨rfl,av,R',?_⟩
  rw [IY] at T'
  exact T'
theorem ae3 {out:Bool} {id:Nat} {ops:Array Oper} {l:List cU} {K:(Nat→Value)→ae→Prop} {f:Nat→Value} {h:ae} (hc:PK P N ops=some l) (hi:lB P l 0 [] [] K f h):
  ∃f' h',gR P N out (.region id ops true) f h .normal f' h'∧K f' h':=by
 unfold PK at hc
 split at hc
 ·rename_i l' hl
  simp at hc;subst hc
  exact axL hl hi
 ·rw [map_eq_some_iff] at hc
  obtain ⟨⟨l',perm⟩,hl,rfl⟩:=hc
  exact axK hl hi
end
end
section
section
variable {P : Program} {N : Nat}
theorem J7 (f:Nat→Value) (ks ls:List Nat) (xs:List Value) (h:xs=ls.map f):tJ (kA (ks++ls) (ks.map f++xs)) f:=by
 subst h
 rw [←List.map_append]
 exact Fh f (ks++ls)
theorem Sf {out:Bool}:∀{c:Code} {hs dX:Hints} {ic:fa},fm P N c hs=some (ic,dX)→(out=true∨iE c=true)→∀{K:Exit→(Nat→Value)→ae→Prop} {f:Nat→Value} {h:ae},iZ P ic K f h→
  ∃e f' h',gR P N out c f h e f' h'∧K e f' h':=by
 intro c
 induction c with
 | skip=>
  intro hs dX ic hc ho K f h hi
  simp [fm] at hc
  obtain ⟨rfl,_⟩:=hc
  exact ⟨.normal,f,h,fun S hS B ρ a w R=>wpIn_skip ⟨rfl,ρ,R,Tr.refl R.heap⟩,hi⟩
 | region id ops draw=>
  intro hs dX ic hc ho K f h hi
  cases draw with
  | true=>
   simp only [fm] at hc
   split at hc
   ·rename_i l hl
    split at hc
    ·rename_i vP
     simp at hc
     obtain ⟨rfl,_⟩:=hc
     have gu:=adi (acE vP) hi
     rw [Is] at gu
     obtain ⟨f',h',r1,r2⟩:=ae3 (id:=id) hl gu
     exact ⟨.normal,f',h',r1,r2⟩
    ·cases hc
   ·cases hc
  | false=>
   simp only [fm] at hc
   split at hc
   ·rename_i l hl
    split at hc
    ·rename_i vP
     simp only [Option.some.injEq] at hc
     have he:ic=(rp (tZ l) hs).1:=by rw [hc]
     subst he
     obtain ⟨f',h',r1,r2⟩:=aDB (i:=0) (os:=ops.toList) (ops:=ops) (fun k o hk=>by simpa using hk) (by rw [IL];exact hl) (afD vP) hi
     refine ⟨.normal,f',h',gR.region ?_,r2⟩
     rw [List.range_eq_range']
     simpa using r1
    ·cases hc
   ·simp at hc
    obtain ⟨rfl,_⟩:=hc
    exact (show False from hi).elim
 | seq x y Ac Ad=>
  intro hs dX ic hc ho K f h hi
  have zK:out=true∨iE x=true:=ho.imp id fun h=>by simp only [iE,and_eq_true] at h;exact h.1
  have zL:out=true∨iE y=true:=ho.imp id fun h=>by simp only [iE,and_eq_true] at h;exact h.2
  have both:∀{a b:fa} {h0 iY jH:Hints} {ls:List Nat},fm P N x hs=some (a,h0)→fm P N y iY=some (b,jH)→iZ P (.seq a (xd ls b)) K f h→∃e f' h',gR P N out (.seq x y) f h e f' h'∧K e f' h':=by
   intro a b h0 iY jH ls ha hb hi
   obtain ⟨e,cV,h₁,r1,r2⟩:=Ac ha zK hi
   by_cases he:e=.normal
   ·subst he
    obtain ⟨Qo,hw,r3⟩:=acs r2
    obtain ⟨e',av6,Jw,s1,s2⟩:=Ad hb zL r3
    exact ⟨e',av6,Jw,r1.seq (s1.weaken hw),s2⟩
   ·refine ⟨e,cV,h₁,r1.aEo he,?_⟩
    cases e <;> first | exact absurd rfl he | exact r2
  simp only [fm] at hc
  split at hc
  ·rename_i a h0 iY ha
   split at hc
   ·rename_i b jH hb
    simp at hc
    obtain ⟨rfl,_⟩:=hc
    exact both ha hb hi
   ·cases hc
  ·rename_i a ha
   split at hc
   ·rename_i b jH hb
    simp at hc
    obtain ⟨rfl,_⟩:=hc
    exact both (ls:=[]) ha hb hi
   ·cases hc
  ·cases hc
 | cond c x y Ac Ad=>
  intro hs dX ic hc ho K f h hi
  have zK:out=true∨iE x=true:=ho.imp id fun h=>by simp only [iE,and_eq_true] at h;exact h.1
  have zL:out=true∨iE y=true:=ho.imp id fun h=>by simp only [iE,and_eq_true] at h;exact h.2
  simp only [fm] at hc
  split at hc
  ·rename_i aH
   split at hc
   ·rename_i a iY ha
    split at hc
    ·rename_i b jH hb
     simp at hc
     obtain ⟨rfl,_⟩:=hc
     rw [afn] at hi
     simp only [pN] at hi
     split at hi
     ·rename_i t ht
      cases t
      ·simp at hi
       obtain ⟨e,cV,h₁,r1,r2⟩:=Ad hb zL hi
       exact ⟨e,cV,h₁,gR.cond aH ht (by simpa using r1),r2⟩
      ·simp at hi
       obtain ⟨e,cV,h₁,r1,r2⟩:=Ac ha zK hi
       exact ⟨e,cV,h₁,gR.cond aH ht (by simpa using r1),r2⟩
     ·exact hi.elim
    ·cases hc
   ·cases hc
  ·cases hc
 | block id c ih=>
  intro hs dX ic hc ho K f h hi
  simp only [fm] at hc
  split at hc
  ·rename_i a iY ha
   simp at hc
   obtain ⟨rfl,_⟩:=hc
   obtain ⟨e,cV,h₁,r1,r2⟩:=ih ha (ho.imp (fun h=>h) fun h=>h) hi
   refine ⟨_,cV,h₁,r1.block,?_⟩
   cases e with
   | exit i=>
    simp only [bO] at r2⊢
    split <;> rename_i h
    ·rw [if_pos h] at r2;exact r2
    ·rw [if_neg h] at r2;exact r2
   | _=>exact r2
  ·cases hc
 | loop c ih=>
  intro hs dX ic hc ho K f h hi
  simp only [fm] at hc
  split at hc
  ·rename_i ks ls iY
   split at hc
   ·rename_i a jH ha
    simp at hc
    obtain ⟨rfl,_⟩:=hc
    obtain ⟨J,μ,h0,Ry⟩:=hi
    have key:∀(n:Nat) (xs:List Value) (hh:ae),μ xs hh=n→J xs hh→∃e f' h',qw P N out c (kA (ks++ls) (ks.map f++xs)) hh e f' h'∧K e f' h':=by
     intro n
     induction n using Nat.strongRecOn with
     | _ n th=>
      intro xs hh hn hJ
      obtain ⟨e,cV,h₁,r1,r2⟩:=ih ha (ho.imp (fun h=>h) fun h=>h) (Ry xs hh hJ)
      by_cases he:e=.normal
      ·subst he
       obtain ⟨hk,QG,aD⟩:=r2
       obtain ⟨e',f',h',s1,s2⟩:=th (μ (ls.map cV) h₁) (by omega) (ls.map cV) h₁ rfl QG
       refine ⟨e',f',h',qw.next r1 (s1.weaken ?_),s2⟩
       rw [←hk]
       exact J7 cV ks ls _ rfl
      ·refine ⟨e,cV,h₁,qw.leave he r1,?_⟩
       cases e <;> first | exact absurd rfl he | exact r2
    obtain ⟨e,f',h',s1,s2⟩:=key _ (ls.map f) h rfl h0
    exact ⟨e,f',h',(s1.weaken (J7 f ks ls _ rfl)).run,s2⟩
   ·cases hc
  ·cases hc
 | exit id=>
  intro hs dX ic hc ho K f h hi
  simp [fm] at hc
  obtain ⟨rfl,_⟩:=hc
  exact ⟨.exit id,f,h,fun S hS B ρ a w R=>wpIn_exit ⟨rfl,ρ,R,Tr.refl R.heap⟩,hi⟩
 | ret=>
  intro hs dX ic hc ho K f h hi
  simp [fm] at hc
  obtain ⟨rfl,_⟩:=hc
  exact ⟨.ret,f,h,fun S hS B ρ a w R=>wpIn_ret ⟨rfl,ρ,R,Tr.refl R.heap⟩,hi⟩
 | rangeFunc g ps kj body=>
  intro hs dX ic hc ho K f h hi
  have ho:out=true:=ho.resolve_right (by simp [iE])
  subst ho
  simp only [fm] at hc
  split at hc
  ·rename_i ls iY
   split at hc
   ·rename_i hk
    simp at hc
    obtain ⟨rfl,_⟩:=hc
    simp only [and_eq_true] at hk
    obtain ⟨h',r1,r2⟩:=alU hk.1 hi
    exact ⟨.normal,f,h',r1,r2⟩
   ·cases hc
  ·cases hc
 | _=>intro hs dX ic hc;simp [fm] at hc
end
end
section
section
variable {P : Program} {ρ : aL} {h : ae} {w : World}
def Cz:List Tmp→List Value→(Nat→Value)→Nat→Value
 | p::ps,v::vs,f=>Cz ps vs (ye f p v)
 | _,_,f=>f
theorem akQ {N:Nat}:∀{ps:List Tmp} {args args':List Value} {f:Nat→Value} {tmps:Array Value},bF ρ args args'→(∀p∈ps,p<N)→tmps.size=N→(∀t,ax ρ (f t) (tmps.getD t Go.undef))→
  ((ps.zip args').foldl (fun (t:Array Value) (p,v)=>t.setIfInBounds p v) tmps).size=N∧
   ∀t,ax ρ (Cz ps args f t) (((ps.zip args').foldl (fun (t:Array Value) (p,v)=>t.setIfInBounds p v) tmps).getD t Go.undef)
 | [],args,args',f,tmps,_,_,hs,hf=>⟨hs,hf⟩
 | p::ps,_,_,f,tmps,.nil,_,hs,hf=>⟨hs,hf⟩
 | p::ps,_,_,f,tmps,.cons (x:=x) (y:=y) ha hr,hp,hs,hf=>by
  simp only [List.zip_cons_cons,List.foldl_cons,Cz]
  refine akQ hr (fun q hq=>hp q (by simp [hq])) (by simpa using hs) ?_
  intro t
  simp only [tH]
  by_cases ht:t=p
  ·subst ht
   have:t<tmps.size:=by rw [hs];exact hp t (by simp)
   simp [Array.getD,this]
   exact ha
  ·rw [if_neg ht]
   have e:(tmps.setIfInBounds p y).getD t Go.undef=tmps.getD t Go.undef:=by
    simp only [Array.getD_eq_getD_getElem?,Array.getElem?_setIfInBounds]
    rw [if_neg (by omega)]
   rw [e]
   exact hf t
theorem marks.put {B:Nat} {l:Nat} {o:Obj}:∀{ds:List Deferred},(∀d∈ds,d≠mark l)→marks B ds w→marks B ds (w.putObj l o)
 | [],_,h=>by simpa [marks] using h
 | d::ds,bk,⟨⟨D,h1,h2,h3,h4⟩,h5⟩=>by
  refine ⟨⟨D,h1,h2,?_,h4⟩,marks.put (fun d hd=>bk d (by simp [hd])) h5⟩
  rw [Az]
  ·exact h3
  ·rintro rfl
   exact bk d (by simp) h1
theorem marks.ne {B l:Nat} {rec:Loop} (hl:w.heap[l]?=some (.loop rec)):∀{ds:List Deferred},marks B ds w→∀d∈ds,d≠mark l
 | [],_,d,hd=>by simp at hd
 | d::ds,⟨⟨D,h1,h2,h3,h4⟩,h5⟩,d',hd=>by
  rcases mem_cons.1 hd with rfl | hd
  ·rintro e
   rw [h1] at e
   obtain rfl:=afX e
   rw [hl] at h3
   cases h3
  ·exact marks.ne hl h5 d' hd
theorem ago {av:aL} {h':ae} {w':World} (H':aY P av h' w') (T:Tr ρ h w av h' w') {l:Nat} {rec:Loop} (aD:l<w.heap.size) (hl:w'.heap[l]?=some (.loop rec))
  (no:∀j s,ρ j=some s→s.bz=l→¬cA h j):∀j s,av j=some s→s.bz=l→¬eR h' j:=by
 intro j s hj hs hv
 obtain ⟨c,ls,vs,hc⟩:=H'.afk hl hj hs hv
 cases hr:ρ j with
 | some s'=>
  have:=T.ext j s' hr
  rw [hj] at this
  cases this
  exact no j s hr hs (T.kinds j (T.jG j s hr) (.inr (.inr (.inl ⟨_,_,_,hc⟩))))
 | none=>
  obtain ⟨_,q⟩:=T.fresh j s hj hr
  rcases q with q | ⟨j',s',q1,q2,q3⟩
  ·omega
  ·exact no j' s' q1 (q2.trans hs) q3
theorem aY.K5 (H:aY P ρ h w) {i:Nat} {r:RI} {o:aq} {x:Obj} (hi:ρ i=some r) (no:∀j s,ρ j=some s→s.bz=r.bz→¬eR h j) (ho:lE ρ (w.putObj r.bz x) r o):
  aY P ρ (h.set i o) (w.putObj r.bz x):=by
 have aD:=H.lt hi
 have ml:∀j,j≠i→cA (h.set i o) j→cA h j:=by
  intro j e hm
  unfold cA at hm⊢
  rw [getElem?_set_ne (Ne.symm e)] at hm
  exact hm
 have ll:∀j,j≠i→eR (h.set i o) j→eR h j:=by
  intro j e hm
  unfold eR at hm⊢
  rw [getElem?_set_ne (Ne.symm e)] at hm
  exact hm
 refine ⟨?_,?_,H.aW⟩
 ·intro j s hj
  by_cases e:j=i
  ·subst e
   rw [hi] at hj
   cases hj
   exact ⟨o,by rw [getElem?_set_self aD],ho⟩
  ·obtain ⟨o',dL,hr⟩:=H.obj j s hj
   refine ⟨o',by rw [getElem?_set_ne (Ne.symm e)];exact dL,?_⟩
   by_cases hd:o'=.dead
   ·subst hd;trivial
   ·refine hr.mono (.refl _) (Az ?_)
    intro e'
    exact no j s hj e' ⟨o',dL,hd⟩
 ·intro a b s t ha hb bK hm hl
  by_cases ea:a=i <;> by_cases eb:b=i
  ·omega
  ·subst ea
   rw [hi] at ha;cases ha
   exact absurd (ll b eb hl) (no b t hb bK.symm)
  ·subst eb
   rw [hi] at hb;cases hb
   exact absurd (ml a ea hm).live (no a s ha bK)
  ·exact H.inj a b s t ha hb bK (ml a ea hm) (ll b eb hl)
theorem Tr.K5 {av:aL} {h':ae} {w':World} {i:Nat} (hm:cA h i) (T:Tr ρ (h.set i .dead) w av h' w') (o:aq):Tr ρ h w av (h'.set i o) w':=by
 have ml:∀j,cA (h.set i .dead) j→cA h j:=by
  intro j hj
  by_cases e:j=i
  ·subst e;exact hm
  ·unfold cA at hj⊢
   rw [getElem?_set_ne (Ne.symm e)] at hj
   exact hj
 exact {
  ext:=T.ext
  len:=by simpa using T.len
  jG:=fun j s hj=>by simpa using T.jG j s hj
  kinds:=by
   intro j hj Eo
   by_cases e:j=i
   ·subst e;exact hm
   ·refine ml j (T.kinds j (by simpa using hj) ?_)
    unfold cA at Eo⊢
    rw [getElem?_set_ne (Ne.symm e)] at Eo
    exact Eo
  fresh:=by
   intro j s h1 h2
   obtain ⟨q1,q2⟩:=T.fresh j s h1 h2
   refine ⟨by simpa using q1,q2.imp (fun h=>h) ?_⟩
   rintro ⟨j',s',a,b,c⟩
   exact ⟨j',s',a,b,ml j' c⟩
  iP:=T.iP
  iy:=fun k hk dC=>T.iy k hk fun j s hj hs hmm=>dC j s hj hs (ml j hmm)
  os:=T.os
  tape:=T.tape
  output:=T.output }
theorem Tr.ak0 {i:Nat} {r:RI} (hd:∀j s,ρ j=some s→j<h.length) (hi:ρ i=some r) {h₁:ae} (hl:h₁.length=h.length) (hm:cA h₁ i) (x:Obj):Tr ρ h₁ w ρ h₁ (w.putObj r.bz x) where
 ext:=.refl _
 len:=le_refl _
 jG:=fun j s hj=>by rw [hl];exact hd j s hj
 kinds:=fun _ _ h=>h
 fresh:=fun j s h1 h2=>by rw [h1] at h2;cases h2
 iP:=by rw [World.putObj_size];exact le_refl _
 iy:=fun k hk dC=>Az fun e=>dC i r hi e.symm hm
 os:=rfl
 tape:=rfl
 output:=rfl
theorem aEv {h:ae} {i:Nat} {o:aq} (hi:h[i]?=some o):h.set i o=h:=by
 apply List.ext_getElem?
 intro j
 by_cases e:j=i
 ·subst e
  rw [getElem?_set_self (bD hi).1,hi]
 ·rw [getElem?_set_ne (Ne.symm e)]
theorem aFJ {i:Nat} {c:Di} {ls:List Nat} {vs args:List Value} {ia ib:fa} {iY jH axm axn:Hints} {K:Value→ae→Prop} (hi:h[i]?=some (.loop c ls vs)) (hn:args.length=c.ps.size)
  (BU:c.ps.all (·<c.N)=true) (ha:fm P c.N c.kj iY=some (ia,axm)) (hb:fm P c.N c.body jH=some (ib,axn)) (na:iE c.kj=true) (nb:iE c.body=true)
  (hw:iZ P ia (fun e f1 h1=>e=.normal∧h1[i]?=some .dead∧iZ P ib (fun e _ h2=>e=.normal∧h2[i]?=some .dead∧K (.bool true) (h2.set i (.loop c ls vs))) f1 h1) (Cz c.ps.toList args (kA ls vs)) (h.set i .dead)):
  EY P i args h K:=by
 obtain ⟨e1,f1,h1,r1,rfl,d1,pn⟩:=Sf (out:=false) ha (.inr na) hw
 obtain ⟨e2,f2,h2,r2,rfl,d2,hk⟩:=Sf (out:=false) hb (.inr nb) pn
 refine ⟨.bool true,h2.set i (.loop c ls vs),?_,hk⟩
 intro ρ r args' w jq sR H
 have hmi:cA h i:=.inr (.inr (.inl ⟨_,_,_,hi⟩))
 obtain ⟨o,ho,rR⟩:=H.obj i r jq
 rw [hi] at ho
 cases ho
 obtain ⟨rec,g1,g2,g3,g4,g5,g6,g7,g8⟩:=rR
 have aD:=(Array.getElem?_eq_some_iff.1 g1).1
 have kn:args'.size=rec.params.size:=by
  have:=sR.length
  rw [g6,←hn,this]
  simp
 refine ⟨rec.fn,_,rec.assign,rec.body,run_yield g1 kn,?_⟩
 rw [g4,g5]
 have Em:(rec.params.zip args').foldl (fun (t:Array Value) (p,v)=>t.setIfInBounds p v) rec.tmps=(c.ps.toList.zip args'.toList).foldl (fun (t:Array Value) (p,v)=>t.setIfInBounds p v) rec.tmps:=by
  rw [g6,←Array.toList_zip,Array.foldl_toList]
 obtain ⟨p1,p2⟩:=akQ (N:=c.N) (ps:=c.ps.toList) (f:=kA ls vs) (tmps:=rec.tmps) sR (by
  intro p hp
  rw [Array.all_eq_true'] at BU
  exact of_decide_eq_true (BU p (by simpa using hp))) g7 g8
 have R0:ee P c.N w.heap.size ρ (Cz c.ps.toList args (kA ls vs)) (h.set i .dead) { tmps:=(rec.params.zip args').foldl (fun (t:Array Value) (p,v)=>t.setIfInBounds p v) rec.tmps,defers:=[] } w:=
  ⟨by rw [Em];exact p1,le_refl _,fun t=>by rw [Em];exact p2 t,H.kill i⟩
 refine roundIn_of_wpIn (F:=Fence.wide) trivial ?_
 refine wpIn_mono (r1 (some r.bz) (fun h=>by cases h) _ ρ _ w R0) ?_
 rintro e a1 w1 ⟨rfl,qu,R1,T1⟩
 have u1:∀j s,ρ j=some s→s.bz=r.bz→¬cA (h.set i .dead) j:=by
  intro j s hj hs hm
  by_cases e:j=i
  ·subst e
   unfold cA at hm
   rw [getElem?_set_self (H.lt jq)] at hm
   rcases hm with ⟨_,_,h1⟩ | ⟨_,h1⟩ | ⟨_,_,_,h1⟩ | ⟨_,_,h1⟩ | ⟨_,_,_,h1⟩ | ⟨_,_,_,_,h1⟩ <;> cases h1
  ·refine e (H.inj j i s r hj jq hs ?_ hmi.live)
   unfold cA at hm⊢
   rw [getElem?_set_ne (Ne.symm e)] at hm
   exact hm
 have l1:w1.heap[r.bz]?=some (.loop rec):=(T1.iy _ aD u1).trans g1
 have Et:=(Array.getElem?_eq_some_iff.1 l1).1
 refine ⟨_,run_beginRound l1 g2,?_⟩
 have SV:=ago R1.heap T1 aD l1 u1
 have l2:(w1.putObj r.bz (.loop { rec with state:=.busy })).heap[r.bz]?=some (.loop { rec with state:=.busy }):=World.putObj_heap_same Et
 have R2:ee P c.N w.heap.size qu f1 h1 a1 (w1.putObj r.bz (.loop { rec with state:=.busy })):=
  ⟨R1.size,marks.put (marks.ne l1 R1.defers) R1.defers,R1.tmp,R1.heap.put SV _⟩
 refine wpIn_mono (r2 (some r.bz) (fun h=>by cases h) _ qu a1 _ R2) ?_
 rintro e a3 w3 ⟨rfl,C0,R3,T3⟩
 have l3:w3.heap[r.bz]?=some (.loop { rec with state:=.busy }):=(T3.iy _ (by simpa using Et) fun j s hj hs hm=>SV j s hj hs hm.live).trans l2
 have no3:=ago R3.heap T3 (by simpa using Et) l3 fun j s hj hs hm=>SV j s hj hs hm.live
 have axh:({ ({ rec with state:=.busy }:Loop) with state:=if (none:Option Code).isNone then .ready else .done,pending:=none }:Loop)=rec:=by
  cases rec
  simp only at g2 g3
  subst g2
  subst g3
  rfl
 have he:=run_endRound (P:=P) none l3
 rw [axh] at he
 have RT:qu i=some r:=T1.ext _ _ jq
 have RU:C0 i=some r:=T3.ext _ _ RT
 have aed:=(Array.getElem?_eq_some_iff.1 l3).1
 refine ⟨_,_,he,.bool true,C0,rfl,.bool _,?_,?_⟩
 ·refine R3.heap.K5 RU no3 ⟨rec,World.putObj_heap_same aed,g2,g3,g4,g5,g6,g7,fun t=>(g8 t).mono (T1.ext.trans T3.ext)⟩
 ·have m1:cA (h1.set i (.loop c ls vs)) i:=.inr (.inr (.inl ⟨c,ls,vs,getElem?_set_self (R1.heap.lt RT)⟩))
  have m3:cA (h2.set i (.loop c ls vs)) i:=.inr (.inr (.inl ⟨c,ls,vs,getElem?_set_self (R3.heap.lt RU)⟩))
  have A:=T1.K5 hmi (.loop c ls vs)
  have B:=Tr.ak0 (w:=w1) (fun j s hj=>R1.heap.lt hj) RT (h₁:=h1.set i (.loop c ls vs)) (by simp) m1 (.loop { rec with state:=.busy })
  have e1:(h1.set i (.loop c ls vs)).set i .dead=h1:=by rw [List.set_set,aEv d1]
  have C:Tr qu (h1.set i (.loop c ls vs)) _ C0 (h2.set i (.loop c ls vs)) w3:=Tr.K5 m1 (by rw [e1];exact T3) _
  have D:=Tr.ak0 (w:=w3) (fun j s hj=>R3.heap.lt hj) RU (h₁:=h2.set i (.loop c ls vs)) (by simp) m3 (.loop rec)
  exact ((A.trans B).trans C).trans D
end
end
section
inductive kG where
 | tmp (t:Nat)
 | cell (agg:Bool) (n:Nat) (a:Nat)
def xT (r:kG) (f:Nat→Value) (h:ae):Option Value:=
 match r with
 | .tmp t=>some (f t)
 | .cell agg n a=>af agg n h (f a)
def pq:List kG→(Nat→Value)→ae→Option (List Value)
 | [],_,_=>some []
 | r::rs,f,h=>match xT r f h,pq rs f h with
  | some v,some vs=>some (v::vs)
  | _,_=>none
def pack:List Value→Value
 | [v]=>v
 | vs=>.tuple vs.toArray
def wH:List kG→(Nat→Value)→ae→(List Value→Prop)→Prop
 | [],_,_,k=>k []
 | .tmp t::rs,f,h,k=>wH rs f h fun vs=>k (f t::vs)
 | .cell agg n a::rs,f,h,k=>fD (af agg n h (f a)) fun v=>wH rs f h fun vs=>k (v::vs)
def K1 (rs:List kG) (K:Value→ae→Prop) (f:Nat→Value) (h:ae):Prop:=wH rs f h fun vs=>K (pack vs) h
theorem K3:∀{rs:List kG} {f:Nat→Value} {h:ae} {k:List Value→Prop},wH rs f h k→∃vs,pq rs f h=some vs∧k vs
 | [],f,h,k,hr=>⟨[],rfl,hr⟩
 | .tmp t::rs,f,h,k,hr=>by
  obtain ⟨vs,h1,h2⟩:=K3 (rs:=rs) hr
  exact ⟨f t::vs,by simp [pq,xT,h1],h2⟩
 | .cell agg n a::rs,f,h,k,hr=>by
  simp only [wH,fD] at hr
  split at hr
  ·rename_i v hv
   obtain ⟨vs,h1,h2⟩:=K3 (rs:=rs) hr
   exact ⟨v::vs,by simp [pq,xT,h1,hv],h2⟩
  ·exact hr.elim
def OU (rs:List kG) (K:Value→ae→Prop):Exit→(Nat→Value)→ae→Prop
 | .normal,f,h=>K1 rs K f h
 | .ret,f,h=>K1 rs K f h
 | _,_,_=>False
def bw (args:List Value):Nat→Value:=fun j=>args.getD j undef
def Ip (P:Program):ResultVar→Option kG
 | .tmp t=>some (.tmp t)
 | .cell a t=>
  match P.underlying t with
  | some d=>if iK P t&&(oH d||P.cellsOf t==1) then some (.cell (oH d) (P.cellsOf t) a) else none
  | none=>none
def Bh (P:Program):List ResultVar→Option (List kG)
 | []=>some []
 | r::rs=>match Ip P r,Bh P rs with
  | some x,some xs=>some (x::xs)
  | _,_=>none
def bC (P:Program) (F:FuncId) (hs:Hints):Option (Nat×fa×List kG):=
 match P.funcs[F]? with
 | some fn=>match fn.body with
  | some c=>match fm P fn.ntmps c hs,Bh P fn.results.toList with
   | some (ic,_),some rs=>some (fn.ntmps,ic,rs)
   | _,_=>none
  | none=>none
 | none=>none
def bN:Option (Nat×fa×List kG)→fa
 | some (_,c,_)=>c
 | none=>.skip
def fa.l:fa→fa
 | .seq a _=>a
 | .cut _ c=>c
 | .cond _ a _=>a
 | .block _ c=>c
 | .loop _ _ c=>c
 | c=>c
def fa.r:fa→fa
 | .seq _ b=>b
 | .cond _ _ b=>b
 | c=>c
section
variable {P : Program} {w : World} {ρ : aL} {h : ae}
def AE (tmps:Array Value):ResultVar→Sem Value
 | .tmp t=>pure (tmps.getD t Go.undef)
 | .cell b t=>do loadVar t (←asAddr (tmps.getD b Go.undef))
theorem aDI (fn:Func) (tmps:Array Value):results fn tmps=(do let vs ←fn.results.mapM (AE tmps);pure (if h:vs.size=1 then vs[0] else .tuple vs)):=by
 have e:(fun r:ResultVar=>(match r with
   | .tmp t=>(pure (tmps.getD t Go.undef):Sem Value)
   | .cell a t=>do loadVar t (←asAddr (tmps.getD a Go.undef))))=AE tmps:=by
  funext r
  cases r <;> rfl
 rw [←e]
 rfl
theorem aEn {N B:Nat} {f:Nat→Value} {a:Act} (R:ee P N B ρ f h a w) {r:ResultVar} {x:kG} (hc:Ip P r=some x) {v:Value} (hv:xT x f h=some v):
  ∃v',(AE a.tmps r).run P w=.ok v' w∧ax ρ v v':=by
 cases r with
 | tmp t=>
  simp [Ip] at hc;subst hc
  simp [xT] at hv;subst hv
  exact ⟨_,rfl,R.tmp t⟩
 | cell b t=>
  simp only [Ip] at hc
  split at hc
  ·rename_i d ht
   split at hc
   ·rename_i hk
    simp at hc;subst hc
    simp only [and_eq_true] at hk
    simp only [xT] at hv
    obtain ⟨v',q1,q2⟩:=al5 R.heap ht hk.1 hv (R.tmp b)
    refine ⟨v',?_,q2⟩
    have jI:=hv
    unfold af at jI
    split at jI
    ·rename_i i o hfb
     have:=R.tmp b
     rw [hfb] at this
     obtain ⟨r',_,e⟩:=this.FG
     simp only [AE]
     rw [e] at q1⊢
     simpa [Instr.loadAt,Instr.sureAddr,asAddr] using q1
    ·cases jI
   ·cases hc
  ·cases hc
theorem amb {α β:Type} (g:α→Sem β) (w:World):∀{xs:List α} {ys:List β},(∀(k:Nat) (x:α),xs[k]?=some x→∃y,ys[k]?=some y∧(g x).run P w=.ok y w)→xs.length=ys.length→(xs.mapM g).run P w=.ok ys w
 | [],[],_,_=>rfl
 | x::xs,y::ys,h,hl=>by
  obtain ⟨y',h1,h2⟩:=h 0 x rfl
  simp at h1;subst h1
  have ih:=amb g w (xs:=xs) (ys:=ys) (fun k a hk=>by simpa using h (k+1) a (by simpa using hk)) (by simpa using hl)
  simp only [List.mapM_cons,Sem.run_bind,h2,Result.andThen_ok,ih,Sem.run_pure]
theorem amd {N B:Nat} {f:Nat→Value} {a:Act} (R:ee P N B ρ f h a w):∀{l:List ResultVar} {rs:List kG} {vs:List Value},Bh P l=some rs→pq rs f h=some vs→
  ∃ju:List Value,bF ρ vs ju∧l.length=ju.length∧∀(k:Nat) (r:ResultVar),l[k]?=some r→∃y,ju[k]?=some y∧(AE a.tmps r).run P w=.ok y w
 | [],rs,vs,hc,hv=>by
  simp [Bh] at hc;subst hc
  simp [pq] at hv;subst hv
  exact ⟨[],.nil,rfl,fun k r hk=>by simp at hk⟩
 | r::l,rs,vs,hc,hv=>by
  simp only [Bh] at hc
  split at hc
  ·rename_i x xs h1 h2
   simp at hc;subst hc
   simp only [pq] at hv
   split at hv
   ·rename_i v vs h3 h4
    simp at hv;subst hv
    obtain ⟨v',q1,q2⟩:=aEn R h1 h3
    obtain ⟨ju,s1,s2,s3⟩:=amd R h2 h4
    refine ⟨v'::ju,.cons q2 s1,by simp [s2],?_⟩
    intro k r' hk
    cases k with
    | zero=>simp at hk;subst hk;exact ⟨v',rfl,q1⟩
    | succ k=>simpa using s3 k r' (by simpa using hk)
   ·cases hv
  ·cases hc
theorem ame {N B:Nat} {f:Nat→Value} {a:Act} (R:ee P N B ρ f h a w) {fn:Func} {rs:List kG} {vs:List Value} (hc:Bh P fn.results.toList=some rs) (hv:pq rs f h=some vs):
  ∃v',(results fn a.tmps).run P w=.ok v' w∧ax ρ (pack vs) v':=by
 obtain ⟨ju,h1,h2,h3⟩:=amd R hc hv
 have hm:=amb (P:=P) (AE a.tmps) w h3 h2
 have fL:(fn.results.mapM (AE a.tmps)).run P w=.ok ju.toArray w:=by
  rw [Array.mapM_eq_mapM_toList]
  simp only [Sem.run_map,hm,Result.andThen_ok]
 refine ⟨if h:ju.toArray.size=1 then ju.toArray[0] else .tuple ju.toArray,?_,?_⟩
 ·rw [aDI]
  simp only [Sem.run_bind,fL,Result.andThen_ok,Sem.run_pure]
 ·cases h1 with
  | nil=>simpa [pack] using ax.sr (ρ:=ρ) .nil
  | cons a1 a2=>
   cases a2 with
   | nil=>simpa [pack] using a1
   | cons b1 b2=>simpa [pack] using ax.sr (.cons a1 (.cons b1 b2))
theorem adb {args:List Value} {args':Array Value} (hv:bF ρ args args'.toList) (N:Nat) (t:Nat):ax ρ (bw args t) ((args'++replicate (N-args'.size) Go.undef).getD t Go.undef):=by
 unfold bw
 have hl:=hv.length
 by_cases ht:t<args.length
 ·obtain ⟨y,hy,hr⟩:=hv.get (k:=t) (x:=args[t]) (getElem?_eq_getElem ht)
  have hs:t<args'.size:=by simpa using (by omega:t<args'.toList.length)
  have e1:args.getD t undef=args[t]:=by simp [getD,ht]
  rw [e1,Array.getD_eq_getD_getElem?,Array.getElem?_append_left hs]
  simp only [getElem?_toList] at hy
  rw [hy]
  exact hr
 ·have e1:args.getD t undef=undef:=by simp [getD,le_of_not_lt ht]
  have e2:(args'++replicate (N-args'.size) Go.undef).getD t Go.undef=undef:=by
   have hs:¬t<args'.size:=by simp at hl;omega
   rw [Array.getD_eq_getD_getElem?,Array.getElem?_append_right (by omega)]
   by_cases h2:t-args'.size<N-args'.size
   ·simp [h2]
   ·simp [h2]
  rw [e1,e2]
  exact ax.undef _
theorem Tr.ayW {av:aL} {h':ae} {w':World} (T:Tr ρ h w av h' w') {l:Nat} (hl:w.heap.size≤l) (o:Obj):Tr ρ h w av h' (w'.putObj l o) where
 ext:=T.ext
 len:=T.len
 jG:=T.jG
 kinds:=T.kinds
 fresh:=T.fresh
 iP:=by rw [World.putObj_size];exact T.iP
 iy:=fun k hk dC=>by rw [Az (by omega)];exact T.iy k hk dC
 os:=T.os
 tape:=T.tape
 output:=T.output
theorem Sw {av:aL} {h':ae} {fn:Func} {tmps:Array Value} {Q:Ending→World→Prop}:∀{ds:List Deferred} {w':World},marks w.heap.size ds w'→aY P av h' w'→Tr ρ h w av h' w'→
  (∀jZ,aY P av h' jZ→Tr ρ h w av h' jZ→∃v,(results fn tmps).run P jZ=.ok v jZ∧Q (.returned v) jZ)→LeavesInM Fence.wide 0 P fn tmps Q ds .returning w'
 | [],w',_,H,T,hq=>hq w' H T
 | d::ds,w',⟨⟨D,h1,h2,h3,h4⟩,h5⟩,H,T,hq=>by
  refine ⟨by simp,.inl ⟨D,_,by rw [h1];rfl,run_takeDeferred h3,?_⟩⟩
  exact Sw (marks.put (fun d hd=>h4 d hd) h5) (H.put (fun j s hj hs=>H.SX h3 hj hs) _) (T.ayW h2 _) hq
theorem ae1 {F:FuncId} {N:Nat} {ic:fa} {rs:List kG} {hs:Hints} (hc:bC P F hs=some (N,ic,rs)) {args:List Value} (ha:args.length≤N) {K:Value→ae→Prop}
  (hi:iZ P ic (OU rs K) (bw args) h):se P F args h K:=by
 unfold bC at hc
 split at hc
 ·rename_i fn hf
  split at hc
  ·rename_i c hb
   split at hc
   ·rename_i ic' _ Vb h1 h2
    simp at hc
    obtain ⟨hN,rfl,rfl⟩:=hc
    obtain ⟨e,f',h',r1,r2⟩:=Sf (out:=true) h1 (.inl rfl) hi
    have ta:(e=.normal∨e=.ret)∧K1 Vb K f' h':=by
     cases e <;> first | exact ⟨.inl rfl,r2⟩ | exact ⟨.inr rfl,r2⟩ | exact r2.elim
    obtain ⟨he,ta⟩:=ta
    obtain ⟨vs,uk,ta⟩:=K3 ta
    ·refine ⟨pack vs,h',?_,ta⟩
     intro ρ args' w hv H
     refine callsIn_wide.1 (callsIn_of_wp_marks (F:=Fence.wide) (n:=0) hf hb trivial ?_ rfl)
     have kn:args'.size=args.length:=by have:=hv.length;simpa using this.symm
     have R:ee P fn.ntmps w.heap.size ρ (bw args) h { tmps:=args'++replicate (fn.ntmps-args'.size) Go.undef,defers:=[] } w:=⟨by simp;omega,le_refl _,adb hv fn.ntmps,H⟩
     refine wpIn_mono (r1 none (fun _=>rfl) _ ρ _ w R) ?_
     rintro e' a' w' ⟨rfl,av,R',T⟩
     have key:LeavesInM Fence.wide 0 P fn a'.tmps (fun e w'=>∃v' av,e=.returned v'∧ax av (pack vs) v'∧aY P av h' w'∧Tr ρ h w av h' w') a'.defers .returning w':=by
      refine Sw R'.defers R'.heap T ?_
      intro jZ Db tP
      have oV:ee P fn.ntmps 0 av f' h' { a' with defers:=[] } jZ:=⟨R'.size,Nat.zero_le _,R'.tmp,Db⟩
      obtain ⟨v',q1,q2⟩:=ame oV h2 uk
      exact ⟨v',q1,v',av,rfl,q2,Db,tP⟩
     rcases he with rfl | rfl
     ·exact key
     ·exact key
   ·cases hc
  ·cases hc
 ·cases hc
theorem axI {F:FuncId} {args:List Value} {h:ae} {v:Value} (hi:se P F args h fun u _=>u=v) {ρ:aL} {args':Array Value} {w:World} (hv:bF ρ args args'.toList) (H:aY P ρ h w)
  (kN:∀i,¬cA h i):Calls P F args' w fun e w'=>(∃v' av,e=.returned v'∧ax av v v')∧RowKit.Below w.heap.size w w':=by
 obtain ⟨u,h',hc,rfl⟩:=hi
 refine (hc ρ args' w hv H).mono ?_
 rintro e w' ⟨v',av,rfl,h1,_,T⟩
 exact ⟨⟨v',av,rfl,h1⟩,⟨T.os,T.tape,T.output,T.iP,fun k hk=>T.iy k hk fun j s _ _ hm=>kN j hm⟩⟩
end
end
section
abbrev VK:=Value→ae→Prop
abbrev LQ:=List Value→ae→Prop
abbrev gm (a n:Nat):jf:=⟨some a,.p (.mv (.tmp n))⟩
abbrev gd (a n m:Nat):kh:=⟨some a,.p (.mv (.tmp n)),m⟩
abbrev ci (n:Int):Operand:=.const (.int .i64 n)
inductive OP (o:Option Value) (K:Value→Prop):Prop | mk:fD o K→OP o K
inductive OH (o:Option (Value×ae)) (K:Value→ae→Prop):Prop | mk:nQ o K→OH o K
inductive aO (c:Value) (a b:Prop):Prop | mk:pN c a b→aO c a b
inductive cD (v:Value) (b:Bool) (A B:Prop):Prop | mk:kH v b A B→cD v b A B
inductive ay (Q:(Nat→Value)→ae→Prop) (ls:List Nat) (vs:List Value) (h:ae):Prop | mk:Bj Q ls vs h→ay Q ls vs h
inductive cN (init:List Value) (h:ae) (Q:(List Value→ae→Prop)→List Value→ae→Prop):Prop | mk:Ao init h Q→cN init h Q
inductive ak (P:Program) (F:FuncId) (args:List Value) (h:ae) (K:Value→ae→Prop):Prop | mk:se P F args h K→ak P F args h K
inductive uZ (P:Program) (x:Value) (args:List Value) (h:ae) (K:Value→ae→Prop):Prop | mk:tQ P x args h K→uZ P x args h K
inductive A6 (P:Program) (g:Value) (ls:List Nat) (vs:List Value) (c:Di) (h:ae) (K:ae→Prop):Prop | mk:uH P g ls vs c h K→A6 P g ls vs c h K
theorem Yx:A6=uH:=funext fun _=>funext fun _=>funext fun _=>funext fun _=>funext fun _=>funext fun _=>funext fun _=>propext ⟨fun ⟨h⟩=>h,.mk⟩
theorem A5:OP=fD:=funext fun _=>funext fun _=>propext ⟨fun ⟨h⟩=>h,.mk⟩
theorem MX:OH=nQ:=funext fun _=>funext fun _=>propext ⟨fun ⟨h⟩=>h,.mk⟩
theorem W5:aO=pN:=funext fun _=>funext fun _=>funext fun _=>propext ⟨fun ⟨h⟩=>h,.mk⟩
theorem Md:cD=kH:=funext fun _=>funext fun _=>funext fun _=>funext fun _=>propext ⟨fun ⟨h⟩=>h,.mk⟩
theorem Da:ay=Bj:=funext fun _=>funext fun _=>funext fun _=>funext fun _=>propext ⟨fun ⟨h⟩=>h,.mk⟩
theorem Yv:cN=Ao:=funext fun _=>funext fun _=>funext fun _=>propext ⟨fun ⟨h⟩=>h,.mk⟩
theorem uY:ak=se:=funext fun _=>funext fun _=>funext fun _=>funext fun _=>funext fun _=>propext ⟨fun ⟨h⟩=>h,.mk⟩
theorem Mb:uZ=tQ:=funext fun _=>funext fun _=>funext fun _=>funext fun _=>funext fun _=>propext ⟨fun ⟨h⟩=>h,.mk⟩
theorem anE (Q:(Nat→Value)→ae→Prop) (ls:List Nat) (vs:List Value) (h:ae):ay Q ls vs h=Q (kA ls vs) h:=by
 rw [Da]
 rfl
theorem az {Q:(Nat→Value)→ae→Prop} {ls:List Nat} {vs:List Value} {h:ae} {A:Prop} (e:Q (kA ls vs) h=A):ay Q ls vs h=A:=(anE _ _ _ _).trans e
def FH (o:qy) (g:Operand→Value) (k:Value→Prop):Prop:=
 match o with
 | .mv x=>k (g x)
 | .JM n=>k (.int .i64 n)
 | .fn f a b=>k (.func (.func f) (a.map g).toArray (b.map g).toArray)
 | o=>OP (jB o g) k
theorem UJ (o:qy) (g:Operand→Value) (k:Value→Prop):FH o g k=fD (jB o g) k:=by
 unfold FH
 split
 ·rfl
 ·rfl
 ·rfl
 ·rw [A5]
def Ln (P:Program) (o:gW) (f:Nat→Value) (h:ae) (K:Value→ae→Prop):Prop:=
 match o with
 | .p o=>FH o (ev f) fun v=>K v h
 | .l o=>OP (fC o (ev f) h) fun v=>K v h
 | .e o=>OH (gj o (ev f) h) K
 | .call g args=>ak P g (args.map (ev f)) h K
 | .kY x args=>uZ P (ev f x) (args.map (ev f)) h K
theorem aEL (P:Program) (o:gW) (f:Nat→Value) (h:ae) (K:Value→ae→Prop):Ln P o f h K=dd P o f h K:=by
 cases o <;> simp only [Ln,dd,UJ,A5,MX,uY,Mb]
def Ec (P:Program) (l:List jf) (K:(Nat→Value)→ae→Prop):(Nat→Value)→ae→Prop:=
 List.rec (motive:=fun _=>(Nat→Value)→ae→Prop) (fun f h=>K f h) (fun o _ ih f h=>Ln P o.op f h fun v h'=>ih (dG f o.dst v) h') l
theorem adq (P:Program) (l:List jf) (K:(Nat→Value)→ae→Prop):∀(f:Nat→Value) (h:ae),Ec P l K f h=xr P l K f h:=by
 induction l with
 | nil=>intro f h;rfl
 | cons o os ih=>
  intro f h
  show Ln P o.op f h (fun v h'=>Ec P os K (dG f o.dst v) h')=_
  rw [aEL,xr]
  congr 1
  funext v h'
  exact ih _ _
def Tb (P:Program) (g:Option (Nat×Bool)) (l:List jf) (K:(Nat→Value)→ae→Prop) (f:Nat→Value) (h:ae):Prop:=
 match g with
 | none=>Ec P l K f h
 | some (s,b)=>cD (f s) b (Ec P l K f h) (K (CO l f) h)
theorem azT (P:Program) (g:Option (Nat×Bool)) (l:List jf) (K:(Nat→Value)→ae→Prop) (f:Nat→Value) (h:ae):Tb P g l K f h=tA P g l K f h:=by
 unfold Tb tA
 split <;> simp only [adq,Md]
abbrev W1:=List (Nat×ae)→eK→Value→ae→Prop
def IA (P:Program) (io:gW) (pre j:Nat) (aN:List (Nat×ae)) (aJ:eK) (f:Nat→Value) (h:ae) (next:W1):Prop:=
 match io with
 | .p po=>FH po (ev f) fun v=>next aN aJ v h
 | .l lo=>OP (fC lo (ev f) h) fun v=>xa pre lo f v aN∧next aN (aJ++[(j,lo,f,v)]) v h
 | .e (.fl a)=>OH (gj (.fl a) (ev f) h) fun v h'=>OP (eL h' v) fun u=>lM pre h' aJ∧next (aN++[(j,h)]) (aJ++[(j,.obj (.const v),f,u)]) v h'
 | .e eo=>OH (gj eo (ev f) h) fun v h'=>lM pre h' aJ∧next (aN++[(j,h)]) aJ v h'
 | .call g args=>ak P g (args.map (ev f)) h fun v h'=>lM pre h' aJ∧next (aN++[(j,h)]) aJ v h'
 | .kY x args=>uZ P (ev f x) (args.map (ev f)) h fun v h'=>lM pre h' aJ∧next (aN++[(j,h)]) aJ v h'
theorem auI (P:Program) (io:gW) (pre j:Nat) (aN:List (Nat×ae)) (aJ:eK) (f:Nat→Value) (h:ae) (next:W1):
  IA P io pre j aN aJ f h next=kZ P io pre j aN aJ f h next:=by
 cases io with
 | e eo=>cases eo <;> simp only [IA,kZ,A5,MX]
 | _=>simp only [IA,kZ,UJ,A5,uY,Mb]
abbrev W0:=List (Nat×ae)→eK→(Nat→Value)→ae→Prop
def D9 (P:Program):List kh→Nat→List (Nat×ae)→eK→W0→(Nat→Value)→ae→Prop
 | [],_,aN,aJ,K,f,h=>K aN aJ f h
 | o::os,j,aN,aJ,K,f,h=>IA P o.op o.pre j aN aJ f h fun aN aJ v h'=>D9 P os (j+1) aN aJ K (dG f o.dst v) h'
theorem Qt (P:Program):∀(l:List kh) (j:Nat) (aN:List (Nat×ae)) (aJ:eK) (K:W0) (f:Nat→Value) (h:ae),D9 P l j aN aJ K f h=pb P l j aN aJ K f h
 | [],_,_,_,_,_,_=>rfl
 | o::os,j,aN,aJ,K,f,h=>by
  rw [D9,pb,auI]
  congr 1
  funext aN aJ v h'
  exact Qt P os _ _ _ _ _ _
def tY (P:Program):List (Option (Nat×Bool)×List kh)→Nat→List (Nat×ae)→eK→((Nat→Value)→ae→Prop)→(Nat→Value)→ae→Prop
 | [],_,_,_,K,f,h=>K f h
 | (none,l)::gs,j,aN,aJ,K,f,h=>D9 P l j aN aJ (fun aN aJ f h=>tY P gs (j+l.length) aN aJ K f h) f h
 | (some (s,b),l)::gs,j,aN,aJ,K,f,h=>
  cD (f s) b (D9 P l j aN aJ (fun aN aJ f h=>tY P gs (j+l.length) aN aJ K f h) f h)
   (vF l j aN aJ (fun aN aJ f h=>tY P gs (j+l.length) aN aJ K f h) f h)
theorem IQ (P:Program):∀(gs:List (Option (Nat×Bool)×List kh)) (j:Nat) (aN:List (Nat×ae)) (aJ:eK) (K:(Nat→Value)→ae→Prop) (f:Nat→Value) (h:ae),
  tY P gs j aN aJ K f h=ow P gs j aN aJ K f h
 | [],_,_,_,_,_,_=>rfl
 | (none,l)::gs,j,aN,aJ,K,f,h=>by
  have e:(fun aN aJ f h=>tY P gs (j+l.length) aN aJ K f h)=fun aN aJ f h=>ow P gs (j+l.length) aN aJ K f h:=by
   funext a b c d;exact IQ P gs _ _ _ _ _ _
  rw [tY,ow,Qt,e]
 | (some (s,b),l)::gs,j,aN,aJ,K,f,h=>by
  have e:(fun aN aJ f h=>tY P gs (j+l.length) aN aJ K f h)=fun aN aJ f h=>ow P gs (j+l.length) aN aJ K f h:=by
   funext a b c d;exact IQ P gs _ _ _ _ _ _
  rw [tY,ow,Qt,e,Md]
noncomputable def aj (P:Program) (c:fa):ar→(Nat→Value)→ae→Prop:=
 fa.rec (motive:=fun _=>ar→(Nat→Value)→ae→Prop)
  (fun K f h=>K .normal f h)
  (fun l K f h=>tY P l 0 [] [] (K .normal) f h)
  (fun g l K f h=>Tb P g l (K .normal) f h)
  (fun _ _ ia ib K f h=>ia (aF (ib K) K) f h)
  (fun ls _ ic K f h=>ay (ic K) ls (ls.map f) h)
  (fun c _ _ ia ib K f h=>aO (ev f c) (ia K f h) (ib K f h))
  (fun id _ ic K f h=>ic (bO id K) f h)
  (fun ks ls _ ic K f h=>cN (ls.map f) h fun L xs hx=>ay (ic (aF (fun f' aT=>ks.map f'=ks.map f∧L (ls.map f') aT) K)) (ks++ls) (ks.map f++xs) hx)
  (fun id K f h=>K (.exit id) f h)
  (fun K f h=>K .ret f h)
  (fun g ls c K f h=>A6 P (ev f g) ls (ls.map f) c h (K .normal f)) c
theorem ax4 (P:Program) (c:fa):aj P c=iZ P c:=by
 induction c with
 | skip=>rfl
 | Iy l=>funext K f h;exact IQ P l 0 [] [] (K .normal) f h
 | ops g l=>funext K f h;exact azT P g l (K .normal) f h
 | seq a b sf tg=>
  funext K f h
  show aj P a (aF (aj P b K) K) f h=iZ P a (aF (iZ P b K) K) f h
  rw [sf,tg]
 | cut ls c ih=>
  funext K f h
  show ay (aj P c K) ls (ls.map f) h=Bj (iZ P c K) ls (ls.map f) h
  rw [ih,Da]
 | cond c a b sf tg=>
  funext K f h
  show aO (ev f c) (aj P a K f h) (aj P b K f h)=pN (ev f c) (iZ P a K f h) (iZ P b K f h)
  rw [sf,tg,W5]
 | block id c ih=>
  funext K f h
  show aj P c (bO id K) f h=iZ P c (bO id K) f h
  rw [ih]
 | loop ks ls c ih=>
  funext K f h
  show cN (ls.map f) h (fun L xs hx=>ay (aj P c (aF (fun f' aT=>ks.map f'=ks.map f∧L (ls.map f') aT) K)) (ks++ls) (ks.map f++xs) hx)=
   Ao (ls.map f) h (fun L xs hx=>iZ P c (aF (fun f' aT=>ks.map f'=ks.map f∧L (ls.map f') aT) K) (kA (ks++ls) (ks.map f++xs)) hx)
  rw [ih,Yv,Da]
  rfl
 | exit id=>rfl
 | ret=>rfl
 | range g ls c=>
  funext K f h
  show A6 P (ev f g) ls (ls.map f) c h (K .normal f)=uH P (ev f g) ls (ls.map f) c h (K .normal f)
  rw [Yx]
def CD:List kG→(Nat→Value)→ae→(List Value→Prop)→Prop
 | [],_,_,k=>k []
 | .tmp t::rs,f,h,k=>CD rs f h fun vs=>k (f t::vs)
 | .cell agg n a::rs,f,h,k=>OP (af agg n h (f a)) fun v=>CD rs f h fun vs=>k (v::vs)
theorem Va:∀(rs:List kG) (f:Nat→Value) (h:ae) (k:List Value→Prop),CD rs f h k=wH rs f h k
 | [],_,_,_=>rfl
 | .tmp _::rs,f,h,k=>Va rs f h _
 | .cell agg n a::rs,f,h,k=>by
  rw [CD,wH,A5]
  congr 1
  funext v
  exact Va rs f h _
def aS (rs:List kG) (K:Value→ae→Prop):ar
 | .normal,f,h=>CD rs f h fun vs=>K (pack vs) h
 | .ret,f,h=>CD rs f h fun vs=>K (pack vs) h
 | _,_,_=>False
theorem YX (rs:List kG) (K:Value→ae→Prop):aS rs K=OU rs K:=by
 funext e f h
 cases e <;> first | rfl | exact Va rs f h _
theorem bP {P:Program} {F:FuncId} {N:Nat} {ic:fa} {rs:List kG} {hs:Hints} {h:ae} (hc:bC P F hs=some (N,ic,rs)) {args:List Value} (ha:args.length≤N)
  {K:Value→ae→Prop} (hi:aj P ic (aS rs K) (bw args) h):ak P F args h K:=
 .mk (ae1 hc ha (by rw [←ax4,←YX];exact hi))
end
section
section aFm
variable {A B : Prop} {K : Value → Prop} {K2 : Value → ae → Prop} {v : Value} {h : ae}
@[simp] theorem ah : OP (some v) K ↔ K v := ⟨fun ⟨h⟩ => h, fun h => .mk h⟩
@[simp] theorem aB : OH (some (v, h)) K2 ↔ K2 v h := ⟨fun ⟨h⟩ => h, fun h => .mk h⟩
theorem GK {o:Option (Value×ae)} (ho:o=some (v,h)) (hk:K2 v h):OH o K2:=by rw [ho];exact aB.2 hk
@[simp] theorem dS : aO (.bool true) A B ↔ A := ⟨fun ⟨h⟩ => by simpa [pN] using h, fun h => .mk (by simpa [pN] using h)⟩
@[simp] theorem dR : aO (.bool false) A B ↔ B := ⟨fun ⟨h⟩ => by simpa [pN] using h, fun h => .mk (by simpa [pN] using h)⟩
theorem AU {b:Bool} (h1:b=true→A) (h2:b=false→B):aO (.bool b) A B:=by cases b <;> simp [h1,h2]
@[simp] theorem bW {p : Prop} [Decidable p] : aO (.bool (decide p)) A B ↔ (p → A) ∧ (¬ p → B) := by by_cases hp : p <;> simp [hp]
@[simp] theorem Gm {p : Prop} [Decidable p] : aO (.bool (!decide p)) A B ↔ (¬ p → A) ∧ (p → B) := by by_cases hp : p <;> simp [hp]
@[simp] theorem gQ : cD (.bool true) true A B ↔ A := ⟨fun ⟨h⟩ => by simpa [kH] using h, fun h => .mk (by simpa [kH] using h)⟩
@[simp] theorem gr : cD (.bool true) false A B ↔ B := ⟨fun ⟨h⟩ => by simpa [kH] using h, fun h => .mk (by simpa [kH] using h)⟩
@[simp] theorem lK : cD (.bool false) true A B ↔ B := ⟨fun ⟨h⟩ => by simpa [kH] using h, fun h => .mk (by simpa [kH] using h)⟩
@[simp] theorem eQ : cD (.bool false) false A B ↔ A := ⟨fun ⟨h⟩ => by simpa [kH] using h, fun h => .mk (by simpa [kH] using h)⟩
@[simp] theorem AT {b : Bool} : cD undef b A B ↔ B := ⟨fun ⟨h⟩ => by simpa [kH, undef] using h, fun h => .mk (by simpa [kH, undef] using h)⟩
@[simp] theorem ef (a b : Value) : bX (.bool true) a b = some a := rfl
@[simp] theorem dU (a b : Value) : bX (.bool false) a b = some b := rfl
theorem ak.mono {P:Program} {F:FuncId} {args:List Value} {K K':Value→ae→Prop} (hc:ak P F args h K) (hk:∀v h',K v h'→K' v h'):ak P F args h K':=by
 rw [uY] at hc⊢
 exact hc.mono hk
end aFm
abbrev I (n:Int):Value:=.int .i64 n
abbrev B (b:Bool):Value:=.bool b
abbrev cv (c:UInt8):Value:=.int .u8 (c.toNat:Int)
abbrev pt (i o:Nat):Value:=.pointer (some ⟨i,o,none⟩)
theorem wrap64 {n:Int} (h1: -9223372036854775808≤n) (h2:n<9223372036854775808):IntKind.wrap .i64 n=n:=by
 have e:IntKind.wrap .i64 n=if n%18446744073709551616≥9223372036854775808 then n%18446744073709551616-18446744073709551616 else n%18446744073709551616:=by
  simp [IntKind.wrap,IntKind.bits,IntKind.signed]
 rw [e]
 split <;> omega
theorem amL {n:Int} (h1:0≤n) (h2:n<256):IntKind.wrap .u8 n=n:=by
 have e:IntKind.wrap .u8 n=n%256:=by
  simp [IntKind.wrap,IntKind.bits,IntKind.signed]
 rw [e]
 omega
section ints
variable (k : IntKind) (a b : Int)
@[simp] theorem cS : ai .lss (.int k a) (.int k b) = some (.bool (decide (a < b))) := by simp [ai, ie]
@[simp] theorem Ds : ai .leq (.int k a) (.int k b) = some (.bool (decide (a ≤ b))) := by simp [ai, ie]
@[simp] theorem fS : ai .gtr (.int k a) (.int k b) = some (.bool (decide (b < a))) := by simp [ai, ie]
@[simp] theorem nA : ai .geq (.int k a) (.int k b) = some (.bool (decide (b ≤ a))) := by simp [ai, ie]
@[simp] theorem jw : ai .eql (.int k a) (.int k b) = some (.bool (decide (a = b))) := by simp [ai, ie]
@[simp] theorem qA : ai .neq (.int k a) (.int k b) = some (.bool (!decide (a = b))) := by simp [ai, ie]
@[simp] theorem cP : ai .add (.int k a) (.int k b) = some (.int k (k.wrap (a + b))) := by simp [ai, ie]
@[simp] theorem gf : ai .sub (.int k a) (.int k b) = some (.int k (k.wrap (a - b))) := by simp [ai, ie]
@[simp] theorem vg : ai .mul (.int k a) (.int k b) = some (.int k (k.wrap (a * b))) := by simp [ai, ie]
@[simp] theorem tG (b : Bool) : gT .not (.bool b) = some (.bool !b) := rfl
@[simp] theorem aGI : gT .neg (.int k a) = some (.int k (k.wrap (0 - a))) := rfl
@[simp] theorem jx (k' : IntKind) : c8 k' (.int k a) = some (.int k' (k'.wrap a)) := rfl
@[simp] theorem DU (n x y : Bool) : um n (.bool x) (.bool y) = some (.bool (if n then !(x == y) else x == y)) := rfl
@[simp] theorem eC (i : Nat) (vs : Array Value) : ca i (.tuple vs) = vs[i]? := rfl
end ints
section strings
variable (a b : List UInt8)
@[simp] theorem Y1 (l : List UInt8) : bytes ⟨l.toArray⟩ = l := aqQ l
@[simp] theorem lX : gy (S a) = some (I a.length) := by simp [gy, S]
@[simp] theorem OS : ai .eql (S a) (S b) = some (.bool (decide (a = b))) := by simp [ai, Aa, S]
@[simp] theorem YV : ai .neq (S a) (S b) = some (.bool (!decide (a = b))) := by simp [ai, Aa, S]
theorem yI (h:a.length+b.length≤maxLen):ai .add (S a) (S b)=some (S (a++b)):=by
 simp only [ai,Aa,S,Y1,if_pos h]
theorem wg {i:Nat} (h:i<a.length) (k:IntKind):jW (S a) (.int k (i:Int))=some (cv a[i]):=by simp [jW,S,h]
theorem Vv {n:Nat} (h:n≤a.length) (k:IntKind):lj (S a) none (some (.int k (n:Int)))=some (S (a.take n)):=by simp [lj,S,rZ,tu,h]
theorem CE {n:Nat} (h:n≤a.length) (k:IntKind):lj (S a) (some (.int k (n:Int))) none=some (S (a.drop n)):=by simp [lj,S,rZ,tu,h]
end strings
theorem azb {σ:Type} {init:List Value} {h:ae} {Q:(List Value→ae→Prop)→List Value→ae→Prop} (enc:σ→List Value) (hp:σ→ae) (J:σ→Prop) (μ:σ→Nat) (s0:σ)
  (e0:enc s0=init) (eh:hp s0=h) (j0:J s0) (hr:∀s,J s→Q (fun ys hy=>∃s',enc s'=ys∧hp s'=hy∧J s'∧μ s'<μ s) (enc s) (hp s)):cN init h Q:=by
 refine .mk ?_
 have least:∀ys hy,(∃s,enc s=ys∧hp s=hy∧J s)→∃m,(∃s,enc s=ys∧hp s=hy∧J s∧μ s=m)∧∀s,enc s=ys→hp s=hy→J s→m≤μ s:=by
  rintro ys hy ⟨s,h1,h2,h3⟩
  have key:∀n,(∃s,enc s=ys∧hp s=hy∧J s∧μ s=n)→∃m,(∃s,enc s=ys∧hp s=hy∧J s∧μ s=m)∧∀s,enc s=ys→hp s=hy→J s→m≤μ s:=by
   intro n
   induction n using Nat.strongRecOn with
   | _ n ih=>
    intro hn
    by_cases aD:∃s,enc s=ys∧hp s=hy∧J s∧μ s<n
    ·obtain ⟨s',a,b,c,d⟩:=aD
     exact ih (μ s') d ⟨s',a,b,c,rfl⟩
    ·exact ⟨n,hn,fun s' a b c=>le_of_not_lt fun d=>aD ⟨s',a,b,c,d⟩⟩
  exact key _ ⟨s,h1,h2,h3,rfl⟩
 classical
 refine ⟨fun ys hy=>∃s,enc s=ys∧hp s=hy∧J s,fun ys hy=>if hJ:∃s,enc s=ys∧hp s=hy∧J s then Classical.choose (least ys hy hJ) else 0,⟨s0,e0,eh,j0⟩,?_⟩
 rintro xs hx hJ
 have EF:=choose_spec (least xs hx hJ)
 simp only [dif_pos hJ]
 generalize Classical.choose (least xs hx hJ)=m at EF
 obtain ⟨⟨s,a,b,c,d⟩,_⟩:=EF
 have:=hr s c
 rw [a,b] at this
 have he:(fun (ys:List Value) (hy:ae)=>(∃s,enc s=ys∧hp s=hy∧J s)∧(if hJ:∃s,enc s=ys∧hp s=hy∧J s then Classical.choose (least ys hy hJ) else 0)<m)=
   fun ys hy=>∃s',enc s'=ys∧hp s'=hy∧J s'∧μ s'<μ s:=by
  funext ys hy
  apply propext
  constructor
  ·rintro ⟨Bw,aD⟩
   rw [dif_pos Bw] at aD
   obtain ⟨⟨s',a',b',c',d'⟩,_⟩:=choose_spec (least ys hy Bw)
   exact ⟨s',a',b',c',by rw [d',d];exact aD⟩
  ·rintro ⟨s',a',b',c',d'⟩
   refine ⟨⟨s',a',b',c'⟩,?_⟩
   rw [dif_pos ⟨s',a',b',c'⟩]
   have:=(choose_spec (least ys hy ⟨s',a',b',c'⟩)).2 s' a' b' c'
   omega
 rw [he]
 exact this
theorem dI {σ:Type} {init:List Value} {h:ae} {Q:(List Value→ae→Prop)→List Value→ae→Prop} (enc:σ→List Value) (hp:σ→ae) (J:σ→Prop) (μ:σ→Nat) (s0:σ)
  (e0:enc s0=init) (eh:hp s0=h) (j0:J s0) (hr:∀s,J s→∀L:List Value→ae→Prop,(∀s',J s'→μ s'<μ s→L (enc s') (hp s'))→Q L (enc s) (hp s)):cN init h Q:=
 azb enc hp J μ s0 e0 eh j0 fun s hs=>hr s hs _ fun s' h1 h2=>⟨s',rfl,rfl,h1,h2⟩
def EX (h h':ae):Prop:=h.length≤h'.length∧∀i,i<h.length→h'[i]?=h[i]?
theorem EX.refl (h:ae):EX h h:=⟨le_refl _,fun _ _=>rfl⟩
theorem EX.trans {a b c:ae} (h:EX a b) (k:EX b c):EX a c:=⟨Nat.le_trans h.1 k.1,fun i hi=>(k.2 i (Nat.lt_of_lt_of_le hi h.1)).trans (h.2 i hi)⟩
theorem EX.append (h g:ae):EX h (h++g):=⟨by simp,fun i hi=>getElem?_append_left hi⟩
theorem EX.push {a h:ae} (k:EX a h) (g:ae):EX a (h++g):=k.trans (.append h g)
theorem EX.set {a h:ae} (k:EX a h) {i:Nat} (hi:a.length≤i) (o:aq):EX a (h.set i o):=⟨by simpa using k.1,fun j hj=>by rw [getElem?_set_ne (by omega)];exact k.2 j hj⟩
theorem EX.get {a h:ae} (k:EX a h) {i:Nat} {o:aq} (hi:a[i]?=some o):h[i]?=some o:=by rw [k.2 i (bD hi).1];exact hi
theorem EX.cells {a h:ae} (k:EX a h) {i:Nat} {xs:List Value} (hi:aQ a i=some xs):aQ h i=some xs:=by
 unfold aQ at hi⊢
 have aD:i<a.length:=by
  apply byContradiction
  intro hc
  rw [getElem?_eq_none (le_of_not_lt hc)] at hi
  simp at hi
 rw [k.2 i aD]
 exact hi
def fN:Value→Bool
 | .bool _ | .int .. | .string _ | .nilFunc | .nilIface=>true
 | .pointer none | .map none=>true
 | .slice none 0 0=>true
 | _=>false
theorem fN.rel {ρ av:aL} {v v':Value} (h:fN v=true) (hv:ax ρ v v'):ax av v v':=by
 unfold fN at h
 split at h
 ·cases hv;exact .bool _
 ·cases hv;exact .int _ _
 ·cases hv;exact .string _
 ·cases hv;exact .nilFunc
 ·cases hv;exact .nilIface
 ·cases hv;exact .uC
 ·cases hv;exact .uB
 ·cases hv;exact .rh
 ·cases h
def oW (V:Nat→Value):Prop:=∀(ρ av:aL) (i j:Nat) (v':Value),av j=ρ i→ax ρ (V i) v'→ax av (V j) v'
theorem oW.fN {v:Value} (h:fN v=true):oW fun _=>v:=fun _ _ _ _ _ _ hv=>fN.rel h hv
theorem oW.pt (o:Nat):oW fun i=>pt i o:=by
 intro ρ av i j v' e hv
 cases hv with
 | ptr hr=>exact .ptr (by rw [e];exact hr)
theorem oW.sl (e:TypeId) (o n:Nat):oW fun i=>sl e i o n:=by
 intro ρ av i j v' he hv
 cases hv with
 | slice hr a b c d=>exact .slice (by rw [he];exact hr) a b c d
inductive yv:List (Nat→Value)→Prop
 | nil:yv []
 | cons {V:Nat→Value} {l:List (Nat→Value)}:oW V→yv l→yv (V::l)
theorem yv.rel {l:List (Nat→Value)} (h:yv l) {ρ av:aL} {i j:Nat} (e:av j=ρ i):∀{ys:List Value},bF ρ (l.map (· i)) ys→bF av (l.map (· j)) ys:=by
 induction h with
 | nil=>intro ys hv;cases hv;exact .nil
 | cons hV _ ih=>intro ys hv;cases hv with | cons a b=>exact .cons (hV _ _ _ _ _ e a) (ih b)
theorem oW.tuple {l:List (Nat→Value)} (h:yv l):oW fun i=>.tuple (l.map (· i)).toArray:=by
 intro ρ av i j v' e hv
 cases hv with
 | tuple hs hr=>
  rename_i xs'
  have:=h.rel e (bF.tF hs hr)
  have:=ax.sr this
  simpa using this
theorem oW.agg {l:List (Nat→Value)} (h:yv l) (hc:∀j,∀V∈l,gA (V j)=true):oW fun i=>.agg (l.map (· i)).toArray:=by
 intro ρ av i j v' e hv
 cases hv with
 | agg hs h1 hr=>
  rename_i xs'
  have:=h.rel e (bF.tF hs hr)
  have:=ax.yB this (by
   intro x hx
   simp only [mem_map] at hx
   obtain ⟨V,hV,rfl⟩:=hx
   exact hc j V hV)
  simpa using this
section gc
variable {P : Program} {F : FuncId} {args : List Value} {h : ae}
def wD:aq→Bool
 | .ro _ xs | .arr _ xs=>xs.all fN
 | .smap es=>es.all fun p=>fN p.2
 | .kQ _ es=>es.all fun p=>fN p.2
 | .di _ _ es=>es.all fun p=>fN p.2.2
 | _=>false
theorem wD.rel {ρ av:aL} {w:World} {r:RI} {o:aq} (hp:wD o=true) (h:lE ρ w r o):lE av w r o:=by
 have cells:∀{c:Array Value} {sh:Nat} {xs:List Value},xs.all fN=true→fY ρ c sh xs→fY av c sh xs:=by
  intro c sh xs hs hc j x hj
  obtain ⟨h1,y,hy,hr⟩:=hc j x hj
  rw [all_eq_true] at hs
  exact ⟨h1,y,hy,fN.rel (hs x (mem_of_getElem? hj)) hr⟩
 cases o with
 | ro e xs=>obtain ⟨h1,c,t,fr,h2,h3,h4⟩:=h;exact ⟨h1,c,t,fr,h2,h3,cells hp h4⟩
 | arr e xs=>obtain ⟨h1,h0,c,h2,h3,h4⟩:=h;exact ⟨h1,h0,c,h2,h3,cells hp h4⟩
 | smap es=>
  obtain ⟨aK,clock,h1,h2,h3⟩:=h
  refine ⟨aK,clock,h1,h2,fun j k v hj=>?_⟩
  obtain ⟨en,e1,e2,e3⟩:=h3 j k v hj
  simp only [wD,all_eq_true] at hp
  exact ⟨en,e1,e2,fN.rel (hp (k,v) (mem_of_getElem? hj)) e3⟩
 | kQ kd es=>
  obtain ⟨aK,clock,h1,h2,h3⟩:=h
  refine ⟨aK,clock,h1,h2,fun j k v hj=>?_⟩
  obtain ⟨en,e1,e2,e3⟩:=h3 j k v hj
  simp only [wD,all_eq_true] at hp
  exact ⟨en,e1,e2,fN.rel (hp (k,v) (mem_of_getElem? hj)) e3⟩
 | di g c es=>
  obtain ⟨h0,aK,h1,h2,h3⟩:=h
  refine ⟨h0,aK,h1,h2,fun j b k v hj=>?_⟩
  obtain ⟨e0,en,e1,e2,yP,e3⟩:=h3 j b k v hj
  simp only [wD,all_eq_true] at hp
  exact ⟨e0,en,e1,e2,yP,fN.rel (hp (b,k,v) (mem_of_getElem? hj)) e3⟩
 | iter m s n l=>cases hp
 | loop c ls vs=>cases hp
 | dead=>cases hp
theorem auc {K:Value→ae→Prop} {v:Value} {h':ae} (hV:oW fun _=>v) (hc:wT P F args [] v h') (ha:args.all fN=true) (hk:K v h):ak P F args h K:=by
 rw [uY]
 refine ⟨v,h,?_,hk⟩
 intro ρ args' w hv H
 have Ju:∀{xs ys:List Value},xs.all fN=true→bF ρ xs ys→bF (fun _=>none) xs ys:=by
  intro xs ys hs hr
  induction hr with
  | nil=>exact .nil
  | cons a _ ih=>simp only [List.all_cons,and_eq_true] at hs;exact .cons (fN.rel hs.1 a) (ih hs.2)
 have H0:aY P (fun _=>none) [] w:=⟨fun i r hi=>(by cases hi),fun i j r s hi=>(by cases hi),fun i r hi=>(by cases hi)⟩
 refine (hc _ args' w (Ju ha hv) H0).mono ?_
 rintro e w' ⟨v',av,rfl,jI,H',T⟩
 have dH:∀b,b<w.heap.size→w'.heap[b]?=w.heap[b]?:=fun b hb=>T.iy b hb fun j s hj=>(by cases hj)
 refine ⟨v',ρ,rfl,hV av ρ h'.length h.length v' (by rw [H.none,H'.none]) jI,⟨?_,H.inj,H.aW⟩,?_⟩
 ·intro k r hr
  obtain ⟨o,ho,nL⟩:=H.obj k r hr
  refine ⟨o,ho,?_⟩
  by_cases hd:o=.dead
  ·subst hd;trivial
  ·exact nL.mono (.refl _) (dH _ (Cp H hr ⟨o,ho,hd⟩))
 ·exact {
   ext:=.refl _
   len:=le_refl _
   jG:=fun k r hr=>H.lt hr
   kinds:=fun _ _ h=>h
   fresh:=fun k r h1 h2=>by rw [h1] at h2;cases h2
   iP:=T.iP
   iy:=fun b hb _=>dH b hb
   os:=T.os
   tape:=T.tape
   output:=T.output }
end gc
end
section
open Go.ChangeShapes Go.WideShapes Go.ChangeAt Go.RowKit
def qo (h:ae):Prop:=∀i,¬cA h i
section
variable {P : Program} {W : World} {ρ : aL} {h : ae}
theorem aY.start (P:Program) (W:World):aY P (fun _=>Option.none) [] W:=⟨fun i r hi=>(by cases hi),fun i j r s hi=>(by cases hi),fun i r hi=>(by cases hi)⟩
theorem qo.start:qo []:=fun i hm=>by unfold cA at hm;simp at hm
theorem aY.YE (H:aY P ρ h W) (hr:qo h) {r:RI} (he:r.aW=P.cellsOf r.elem) {o:aq} (dC:o=.dead∨∃e xs,o=.ro e xs) (ho:lE (ρ.add h.length r) W r o):
  aY P (ρ.add h.length r) (h++[o]) W∧qo (h++[o])∧ρ.le (ρ.add h.length r):=by
 have kN:qo (h++[o]):=by
  intro i hm
  unfold cA at hm
  by_cases hi:i<h.length
  ·rw [getElem?_append_left hi] at hm
   exact hr i hm
  ·by_cases he:i=h.length
   ·subst he
    have e:(h++[o])[h.length]?=some o:=by simp
    rw [e] at hm
    rcases dC with rfl | ⟨_,_,rfl⟩ <;> rcases hm with ⟨_,_,h1⟩ | ⟨_,h1⟩ | ⟨_,_,_,h1⟩ | ⟨_,_,h1⟩ | ⟨_,_,_,h1⟩ | ⟨_,_,_,_,h1⟩ <;> cases h1
   ·rw [getElem?_eq_none (by simp;omega)] at hm
    rcases hm with ⟨_,_,h1⟩ | ⟨_,h1⟩ | ⟨_,_,_,h1⟩ | ⟨_,_,h1⟩ | ⟨_,_,_,h1⟩ | ⟨_,_,_,_,h1⟩ <;> cases h1
 refine ⟨⟨?_,fun i j r s _ _ _ hm=>absurd hm (kN i),?_⟩,kN,aL.wz H.none⟩
 ·intro i s hi
  unfold aL.add at hi
  split at hi
  ·rename_i e
   subst e
   cases hi
   exact ⟨o,by simp,ho⟩
  ·obtain ⟨o',h1,h2⟩:=H.obj i s hi
   exact ⟨o',by rw [getElem?_append_left (H.lt hi)];exact h1,h2.mono (aL.wz H.none) rfl⟩
 ·intro i s hi
  unfold aL.add at hi
  split at hi
  ·cases hi;exact he
  ·exact H.aW i s hi
theorem fN.self {v:Value} (hs:fN v=true) (ρ:aL):ax ρ v v:=by
 unfold fN at hs
 split at hs
 ·exact .bool _
 ·exact .int _ _
 ·exact .string _
 ·exact .nilFunc
 ·exact .nilIface
 ·exact .uC
 ·exact .uB
 ·exact .rh
 ·cases hs
theorem fN.cell {v:Value} (hs:fN v=true):gA v=true:=by
 unfold fN at hs
 split at hs <;> first | rfl | cases hs
variable {H : Type} {enc : TypeId × Value → H}
theorem addr_eq {a:Addr} (hs:a.spot=none) (n:Nat):a.add n=⟨a.block,a.off+n,none⟩:=by
 obtain ⟨b,o,s⟩:=a
 simp only at hs
 subst hs
 unfold Addr.add
 split
 ·rename_i h;subst h;rfl
 ·rfl
theorem avx {t e:TypeId} (ht:P.underlying t=some (.slice e)) (iJ:P.cellsOf e≠0)
  (flat:∀n cs y,DataW.trod enc P W 0 (fun _=>true) true n e cs=some y→cs.length=P.cellsOf e∧∀x∈cs,fN x=true)
  {fuel:Nat} {v:Value} {x:DataW H×List MemPlace} (hd:DataW.trod enc P W 0 (fun _=>true) true fuel t [v]=some x) (aH:∀(a:Addr) (len cap:Nat),v=.slice (some a) len cap→a.spot=none) (HR:aY P ρ h W) (kN:qo h):
  ∃(av:aL) (g:ae) (v':Value) (n:Nat) (xs:List Value),ρ.le av∧aY P av (h++g) W∧qo (h++g)∧ax av v' v∧gA v'=true∧
   ((v'=.slice none 0 0∧n=0)∨∃i,v'=sl e i 0 n∧(n=0∨aQ (h++g) i=some xs))∧xs.length=n*P.cellsOf e∧(∀y∈xs,fN y=true)∧
   ∀i,i<n→∃m y,DataW.trod enc P W 0 (fun _=>true) true m e ((xs.drop (i*P.cellsOf e)).take (P.cellsOf e))=some y:=by
 rcases DataW.trod_slice ht hd with ⟨h1,_⟩ | ⟨a,len,cap,avv,rest,n,_,h1,_,hb,hl,hm,hlen,zx,zQ,_⟩
 ·obtain rfl:v=.slice none 0 0:=by simpa using h1
  exact ⟨ρ,[],.slice none 0 0,0,[],.refl _,by simpa using HR,by simpa using kN,.rh,rfl,.inl ⟨rfl,rfl⟩,by simp,by simp,fun i hi=>by omega⟩
 ·obtain rfl:v=.slice (some a) len cap:=by simpa using h1
  have B3:a.spot=none:=aH a len cap rfl
  obtain ⟨Rv,hr⟩:=zQ rfl
  -- every aFV cells lie there
  have each:∀i,i<cap→∃cs y,W.cells? 0 (a.add (i*P.cellsOf e)) (P.cellsOf e)=some cs∧DataW.trod enc P W 0 (fun _=>true) true n e cs=some y:=by
   intro i hi
   have kI:∃y,(W.cells? 0 (a.add (i*P.cellsOf e)) (P.cellsOf e)).bind (DataW.trod enc P W 0 (fun _=>true) true n e)=some y:=by
    by_cases bn:i<len
    ·rw [zx i bn,getElem?_eq_getElem (by omega)]
     exact ⟨_,rfl⟩
    ·have:=hr (i-len) (by omega)
     rw [show len+(i-len)=i by omega] at this
     rw [this,getElem?_eq_getElem (by omega)]
     exact ⟨_,rfl⟩
   obtain ⟨y,hy⟩:=kI
   rw [Option.bind_eq_some_iff] at hy
   obtain ⟨cs,h1,h2⟩:=hy
   exact ⟨cs,y,h1,h2⟩
  by_cases vH:cap=0
  ·subst vH
   obtain rfl:len=0:=by omega
   obtain ⟨H',Rw,hle⟩:=HR.YE kN (r:=⟨a.block,a.off,e,P.cellsOf e,a.off⟩) rfl (.inl rfl) trivial
   refine ⟨_,[.dead],sl e h.length 0 0,0,[],hle,H',Rw,?_,rfl,.inr ⟨_,rfl,.inl rfl⟩,by simp,by simp,fun i hi=>by omega⟩
   obtain ⟨ab,ao,vf⟩:=a
   simp only at B3
   subst B3
   exact ax.slice (ρ:=ρ.add h.length ⟨ab,ao,e,P.cellsOf e,ao⟩) (i:=h.length) (o:=0) (n:=0) (o':=ao) (c':=0) (r:=⟨ab,ao,e,P.cellsOf e,ao⟩) (by simp [aL.add]) (.inl rfl) (le_refl _) (by unfold maxLen;omega) (by simp)
  ·have BJ:0<P.cellsOf e:=by omega
   -- gN block
   have awq:∃c tt fr,W.heap[a.block]?=some (.cells c tt fr):=by
    obtain ⟨cs,y,h1,h2⟩:=each 0 (by omega)
    obtain ⟨_,g2,g3⟩:=World.cells?_some h1
    have:=g3 0 BJ
    rw [Nat.zero_mul,addr_eq B3 0,addr_eq rfl 0,getElem?_eq_getElem (by omega)] at this
    unfold World.cell? at this
    split at this
    ·rename_i c tt fr hh;exact ⟨c,tt,fr,hh⟩
    ·cases this
   obtain ⟨c,tt,fr,sT⟩:=awq
   have get:∀i cs,W.cells? 0 (a.add (i*P.cellsOf e)) (P.cellsOf e)=some cs→∀j,j<P.cellsOf e→c[a.off+(i*P.cellsOf e+j)]?=cs[j]?:=by
    intro i cs h1 j hj
    obtain ⟨_,g2,g3⟩:=World.cells?_some h1
    have:=g3 j hj
    rw [addr_eq B3,addr_eq rfl] at this
    simp only [World.cell?,sT] at this
    simpa [Nat.add_assoc] using this
   have here:∀j,j<cap*P.cellsOf e→∃y,c[a.off+j]?=some y∧fN y=true:=by
    intro j hj
    have hi:j / P.cellsOf e<cap:=(Nat.div_lt_iff_lt_mul BJ).2 hj
    obtain ⟨cs,y,h1,h2⟩:=each _ hi
    obtain ⟨f1,f2⟩:=flat n cs y h2
    have mZ:j%P.cellsOf e<P.cellsOf e:=Nat.mod_lt _ BJ
    have:=get _ cs h1 (j%P.cellsOf e) mZ
    rw [show j / P.cellsOf e*P.cellsOf e+j%P.cellsOf e=j by rw [Nat.mul_comm];exact Nat.div_add_mod j _] at this
    rw [this,getElem?_eq_getElem (by omega)]
    exact ⟨_,rfl,f2 _ (List.getElem_mem _)⟩
   let xs:=(List.range (len*P.cellsOf e)).map fun j=>c.getD (a.off+j) Go.undef
   have hZ:xs.length=len*P.cellsOf e:=by simp [xs]
   have hlc:len*P.cellsOf e≤cap*P.cellsOf e:=Nat.mul_le_mul_right _ hl
   have RN:∀j,j<len*P.cellsOf e→xs[j]?=c[a.off+j]?:=by
    intro j hj
    obtain ⟨y,h1,_⟩:=here j (by omega)
    simp [xs,hj,h1]
   have p6:∀y∈xs,fN y=true:=by
    intro y hy
    obtain ⟨j,hj⟩:=List.getElem?_of_mem hy
    have aD:j<len*P.cellsOf e:=by have:=(bD hj).1;omega
    obtain ⟨z,h1,h2⟩:=here j (by omega)
    rw [RN j aD,h1] at hj
    cases hj
    exact h2
   have axr:a.off+cap*P.cellsOf e≤c.size:=by
    have aGm:0<cap*P.cellsOf e:=Nat.mul_pos (by omega) BJ
    obtain ⟨y,h1,_⟩:=here (cap*P.cellsOf e-1) (by omega)
    have:=(Array.getElem?_eq_some_iff.1 h1).1
    omega
   obtain ⟨H',Rw,hle⟩:=HR.YE kN (r:=⟨a.block,a.off,e,P.cellsOf e,c.size⟩) rfl (.inr ⟨e,xs,rfl⟩) ⟨rfl,c,tt,fr,sT,rfl,fun j y hj=>by
    have aD:j<len*P.cellsOf e:=by have:=(bD hj).1;omega
    rw [RN j aD] at hj
    obtain ⟨z,h1,h2⟩:=here j (by omega)
    rw [h1] at hj
    cases hj
    exact ⟨fN.cell h2,_,h1,fN.self h2 _⟩⟩
   refine ⟨_,[.ro e xs],sl e h.length 0 len,len,xs,hle,H',Rw,?_,rfl,.inr ⟨_,rfl,.inr (by simp [aQ])⟩,hZ,p6,?_⟩
   ·obtain ⟨ab,ao,vf⟩:=a
    simp only at B3
    subst B3
    exact ax.slice (ρ:=ρ.add h.length ⟨ab,ao,e,P.cellsOf e,c.size⟩) (i:=h.length) (o:=0) (n:=len) (o':=ao) (c':=cap) (r:=⟨ab,ao,e,P.cellsOf e,c.size⟩) (by simp [aL.add]) (.inl rfl) hl hm axr
   ·intro i hi
    obtain ⟨cs,y,h1,h2⟩:=each i (by omega)
    refine ⟨n,y,?_⟩
    have fU:=(flat n cs y h2).1
    have Ex:(i+1)*P.cellsOf e≤len*P.cellsOf e:=Nat.mul_le_mul_right _ hi
    rw [Nat.add_mul,Nat.one_mul] at Ex
    have:(xs.drop (i*P.cellsOf e)).take (P.cellsOf e)=cs:=by
     apply List.ext_getElem?
     intro j
     rw [List.getElem?_take]
     by_cases hj:j<P.cellsOf e
     ·rw [if_pos hj,List.getElem?_drop,RN _ (by omega),get i cs h1 j hj]
     ·rw [if_neg hj,getElem?_eq_none (by omega)]
    rw [this]
    exact h2
theorem aE8 {e:TypeId} {k:IntKind} (he:P.underlying e=some (.int k)) (hc:P.cellsOf e=1):∀n cs y,DataW.trod enc P W 0 (fun _=>true) true n e cs=some y→cs.length=P.cellsOf e∧∀x∈cs,fN x=true:=by
 intro n cs y h
 obtain ⟨m,rfl,_,_⟩:=DataW.trod_int he h
 exact ⟨by rw [hc];rfl,by simp [fN]⟩
theorem amA (hl:laidOutB P=true) {W':World} (hb:Below W.heap.size W W'):∀{ts:List TypeId} {vs:List Value} {ds:List (DataW H)} {p:List MemPlace},(∀t∈ts,P.readableRec t=true∧t<P.types.size)→
  DataW.TrodAll enc P W 0 (fun _=>true) true ts vs ds p→(∀x∈p,x.block<W.heap.size)→DataW.TrodAll enc P W' 0 (fun b=>decide (b<W.heap.size)) true ts vs ds p
 | [],vs,ds,p,_,h,_=>by
  obtain ⟨rfl,rfl,rfl⟩:=trodAll_nil h
  exact trodAll_mk0
 | t::ts,vs,ds,p,hr,h,aD=>by
  obtain ⟨v,ju,d,ds',a,b,rfl,rfl,rfl,h1,h2⟩:=trodAll_cons h
  exact trodAll_cons_mk (Below.trod hl (hr t (by simp)).1 (hr t (by simp)).2 h1 hb fun x hx=>aD x (by simp [hx]))
   (amA hl hb (fun t ht=>hr t (by simp [ht])) h2 fun x hx=>aD x (by simp [hx]))
theorem az8 (hl:laidOutB P=true) {f:Func} {s:ChangeSpec} {t4:TypeId} {W':World} {args:Array Value} {ds gs:List (DataW H)} {before:List MemPlace} (hW:DataW.Whole enc P f.params.toList s.vars false W args.toList ds gs before)
  (hv:s.vars=[]) (ht4:P.underlying t4=some .bool) (hr:f.resultTypes=#[t4]) (hfn:∀QE,QE=[]→s.fn H (ds++QE)={ results:=[.lit (.bool true)],args:=ds })
  (axf:∀t∈f.params.toList,P.readableRec t=true∧t<P.types.size) (hb:Below W.heap.size W W'):s.post enc P f false true false false W args (.bool true) W':=by
 have IZ:=hW
 obtain ⟨p,q,hA,hV,rfl,_,_⟩:=hW
 rw [hv] at hV
 obtain ⟨rfl,rfl⟩:=trodVars_none hV
 have aD:∀x∈p,x.block<W.heap.size:=fun x hx=>IZ.lt x (by simp [hx])
 have e:=hfn [] rfl
 refine ⟨ds,[],p++[],[],p,[],IZ,?_,?_,?_,hb.frame _,fun h=>by cases h⟩
 ·rw [e,hr]
  exact trodAll_mk1 (shut_bool ht4 true)
 ·rw [e]
  exact amA hl hb axf hA aD
 ·rw [e,hv]
  rfl
end
end
section
theorem AA (k:IntKind) (a b:Nat) (hb:b≠0):ai .rem (.int k (a:Int)) (.int k (b:Int))=some (.int k ((a%b:Nat):Int)):=by
 have h:¬((b:Int)=0):=by omega
 simp only [ai,ie,if_true,if_neg h]
 congr 2
structure NS (h:ae) (v:Value) (k:IntKind) (ns:List Int):Prop where
 len:bj v=some (I ns.length)
 get:∀i (hi:i<ns.length),∃b o,a9 1 v (I i)=some (pt b o)∧af false 1 h (pt b o)=some (.int k ns[i])
 le:ns.length≤maxLen
theorem ay9 {h h':ae} (k:EX h h') {agg:Bool} {n:Nat} {a v:Value} (hl:af agg n h a=some v):af agg n h' a=some v:=by
 unfold af at hl⊢
 split at hl
 ·rename_i i o
  cases hc:aQ h i with
  | none=>rw [hc] at hl;cases hl
  | some xs=>rw [hc] at hl;rw [k.cells hc];exact hl
 ·cases hl
theorem NS.mono {h h':ae} {v:Value} {k:IntKind} {ns:List Int} (e:EX h h') (p:NS h v k ns):NS h' v k ns:=
 ⟨p.len,fun j hj=>let ⟨i,o,a,b⟩:=p.get j hj;⟨i,o,a,ay9 e b⟩,p.le⟩
theorem NS.nil (h:ae) (k:IntKind):NS h (.slice none 0 0) k []:=⟨rfl,fun i hi=>by simp at hi,by simp⟩
theorem NS.sl {h:ae} {e:TypeId} {i:Nat} {k:IntKind} {ns:List Int} (hc:ns=[]∨aQ h i=some (ns.map (Value.int k))) (hl:ns.length≤maxLen):NS h (sl e i 0 ns.length) k ns:=by
 refine ⟨rfl,fun j hj=>⟨i,j,?_,?_⟩,hl⟩
 ·have:(0:Int)≤(j:Int)∧(j:Int)<(ns.length:Int):=by omega
  simp [Go.Sim.sl,a9,this]
 ·have hc:=hc.resolve_left (by rintro rfl;simp at hj)
  simp [af,hc,cf,hj]
section
open Go.ChangeShapes
variable {P : Program} {W : World} {ρ : aL} {h : ae} {H : Type} {enc : TypeId × Value → H}
theorem afh {e:TypeId} {k:IntKind} (he:P.underlying e=some (.int k)):∀{n:Nat} {xs:List Value},xs.length=n*1→(∀i,i<n→∃m y,DataW.trod enc P W 0 (fun _=>true) true m e ((xs.drop (i*1)).take 1)=some y)→
  ∃ns:List Int,ns.length=n∧xs=ns.map (Value.int k)∧∀x∈ns,(Lit.int k x).wf=true
 | 0,xs,hl,_=>⟨[],rfl,by simpa using hl,by simp⟩
 | n+1,xs,hl,hp=>by
  match xs,hl with
  | x::xs,hl=>
   obtain ⟨m,y,hy⟩:=hp 0 (by omega)
   simp at hy
   obtain ⟨z,hz,_,hw⟩:=DataW.trod_int he hy
   simp at hz
   subst hz
   obtain ⟨ns,h1,h2,h3⟩:=afh he (n:=n) (xs:=xs) (by simp at hl;omega) fun i hi=>by
    have:=hp (i+1) (by omega)
    rw [show (i+1)*1=i*1+1 by omega] at this
    simpa using this
   exact ⟨z::ns,by simp [h1],by simp [h2],by intro a ha;rcases mem_cons.1 ha with rfl | ha;exact hw;exact h3 a ha⟩
end
end
section
def CJ (P:Program) (o:gW) (f:Nat→Value) (h:ae) (K:Value→ae→Prop):Prop:=
 match o with
 | .e (.next it)=>∃l,At h (ev f it)=some l∧∀p∈l,K p.1 p.2
 | o=>dd P o f h K
def Bt (P:Program):List jf→((Nat→Value)→ae→Prop)→(Nat→Value)→ae→Prop
 | [],K,f,h=>K f h
 | o::os,K,f,h=>CJ P o.op f h fun v h'=>Bt P os K (dG f o.dst v) h'
def J9 (P:Program) (g:Option (Nat×Bool)) (l:List jf) (K:(Nat→Value)→ae→Prop) (f:Nat→Value) (h:ae):Prop:=
 match g with
 | none=>Bt P l K f h
 | some (s,b)=>tA P (some (s,b)) l K f h
noncomputable def lW (P:Program) (c:fa):ar→(Nat→Value)→ae→Prop:=
 fa.rec (motive:=fun _=>ar→(Nat→Value)→ae→Prop)
  (fun K f h=>K .normal f h)
  (fun l K f h=>ow P l 0 [] [] (K .normal) f h)
  (fun g l K f h=>J9 P g l (K .normal) f h)
  (fun _ _ ia ib K f h=>ia (aF (ib K) K) f h)
  (fun ls _ ic K f h=>Bj (ic K) ls (ls.map f) h)
  (fun c _ _ ia ib K f h=>pN (ev f c) (ia K f h) (ib K f h))
  (fun id _ ic K f h=>ic (bO id K) f h)
  (fun ks ls _ ic K f h=>Ao (ls.map f) h fun L xs hx=>ic (aF (fun f' aT=>ks.map f'=ks.map f∧L (ls.map f') aT) K) (kA (ks++ls) (ks.map f++xs)) hx)
  (fun id K f h=>K (.exit id) f h)
  (fun K f h=>K .ret f h)
  (fun g ls c K f h=>uH P (ev f g) ls (ls.map f) c h (K .normal f)) c
section
variable {P : Program} {w : World} {ρ : aL} {h : ae}
theorem azB (H:aY P ρ h w) {it EW:Value} {l:List (Value×ae)} (hn:At h it=some l) (hv:ax ρ it EW) (ty:TypeId):
  ∃p∈l,∃v' w',(Instr.next EW false ty).run P w=.ok v' w'∧ax ρ p.1 v'∧aY P ρ p.2 w'∧Tr ρ h w ρ p.2 w':=by
 unfold At at hn
 split at hn
 ·rename_i j
  split at hn
  ·rename_i i kB seen last sW
   split at hn
   ·rename_i g c es jj
    split at hn
    ·cases hn
    rename_i oB
    simp only [Option.some.injEq] at hn
    cases hv with
    | ptr hr=>
     rename_i r
     obtain ⟨o,ho,nL⟩:=H.obj j r hr
     rw [sW] at ho
     cases ho
     obtain ⟨xL,rm,Jq,hb⟩:=nL
     obtain ⟨aK,hm,E⟩:=H.Bm Jq jj
     rw [xL]
     -- gN entries,one by one
     have awX:aK.toList.map (fun e=>e.born)=es.map fun e=>e.1:=by
      apply List.ext_getElem?
      intro q
      simp only [List.getElem?_map]
      by_cases hq:q<es.length
      ·have he:=getElem?_eq_getElem hq
       generalize es[q]=x at he
       obtain ⟨b,k,v⟩:=x
       obtain ⟨_,en,g2,g3,g4,g5⟩:=E.get q b k v he
       rw [he,getElem?_toList,g2]
       simp [g4]
      ·have h1:aK.toList[q]?=none:=getElem?_eq_none (by rw [Array.length_toList,E.size];omega)
       rw [h1,getElem?_eq_none (by omega)];rfl
     have hz:∀en∈aK.toList,∃e∈es,e.1=en.born∧e.2.1=en.key∧ax ρ e.2.2 en.val:=by
      intro en BH
      obtain ⟨q,hq,e'⟩:=List.mem_iff_getElem.1 BH
      have:aK[q]?=some en:=by rw [←getElem?_toList,getElem?_eq_getElem hq,e']
      obtain ⟨v,q1,_,q3⟩:=E.inv this
      exact ⟨_,mem_of_getElem? q1,rfl,rfl,q3⟩
     have rX:∀e∈es,∃en∈aK.toList,e.1=en.born:=by
      intro e he
      have:e.1∈es.map fun e=>e.1:=mem_map.2 ⟨e,he,rfl⟩
      rw [←awX] at this
      obtain ⟨en,h1,h2⟩:=mem_map.1 this
      exact ⟨en,h1,h2.symm⟩
     -- uO gN aGu aGJ
     let left:=aK.filter fun e=> !(seen.toArray.contains e.born)
     let old:=left.filter fun e=>decide (e.born<kB)
     let new:=left.filter fun e=>decide (e.born≥kB)
     let pK:Array (Option MapEntry):=(if old.isEmpty then #[none] else #[])++(old++new).map some
     have pQ:(!seen.toArray.isEmpty&& !aK.isEmpty&&aK.all fun e=>decide (e.born≥last))=false:=by
      rw [Bool.eq_false_iff]
      intro hx
      apply oB
      simp only [and_eq_true] at hx⊢
      obtain ⟨⟨x1,x2⟩,x3⟩:=hx
      refine ⟨⟨by simpa using x1,?_⟩,?_⟩
      ·have:aK.size≠0:=by simpa [Array.isEmpty] using x2
       rw [E.size] at this
       simpa [List.isEmpty_iff] using this
      ·rw [all_eq_true]
       intro e he
       obtain ⟨en,h1,h2⟩:=rX e he
       rw [Array.all_eq_true'] at x3
       have:=x3 en (by simpa using h1)
       rw [h2]
       exact this
     have iJ:0<pK.size:=by
      simp only [pK]
      by_cases ho:old.isEmpty=true
      ·rw [if_pos ho];simp;omega
      ·rw [if_neg ho]
       have:old.size≠0:=by simpa [Array.isEmpty] using ho
       simp;omega
     have bT:(getObj r.bz).run P w=.ok (.mapIter (some rm.bz) kB seen.toArray last) w:=by simp [getObj,Sem.run,hb]
     have Q0:(getObj rm.bz).run P w=.ok (.map aK c) w:=by simp [getObj,Sem.run,hm]
     obtain ⟨q,w1,hq,QN,RK,hT1⟩:∃q w1,q<pK.size∧(choose (.mapNext pK.size)).run P w=.ok q w1∧(w1.heap=w.heap∧aY P ρ h w1)∧Tr ρ h w ρ h w1:=by
      by_cases hfo:(Question.mapNext pK.size).forced=true
      ·exact ⟨0,w,iJ,by simp [choose,Sem.run,hfo],⟨rfl,H⟩,Tr.refl H⟩
      ·exact ⟨(w.tape w.drawn (.mapNext pK.size))%pK.size,{ w with drawn:=w.drawn+1 },Nat.mod_lt _ iJ,by simp [choose,Sem.run,hfo,Question.cut],⟨rfl,H.drew _⟩,Tr.drew H _⟩
     have hold:(es.filter fun e=> !seen.contains e.1).filter (fun e=>decide (e.1<kB))=[]↔old.isEmpty=true:=by
      constructor
      ·intro h0
       simp only [old,left]
       rw [Array.isEmpty_iff_size_eq_zero]
       apply byContradiction
       intro bk
       obtain ⟨en,BH⟩:∃en,en∈(Array.filter (fun e=>decide (e.born<kB)) (Array.filter (fun e=> !(seen.toArray.contains e.born)) aK)):=⟨_,Array.getElem_mem (i:=0) (by omega)⟩
       rw [Array.mem_filter,Array.mem_filter] at BH
       obtain ⟨⟨e1,e2⟩,e3⟩:=BH
       obtain ⟨e,he,g1,_,_⟩:=hz en (by simpa using e1)
       have:e∈(es.filter fun e=> !seen.contains e.1).filter (fun e=>decide (e.1<kB)):=by
        rw [mem_filter,mem_filter,g1]
        exact ⟨⟨he,by simpa using e2⟩,e3⟩
       rw [h0] at this
       cases this
      ·intro h0
       rw [Array.isEmpty_iff_size_eq_zero] at h0
       rw [List.filter_eq_nil_iff]
       intro e he aD
       rw [mem_filter] at he
       obtain ⟨en,h1,h2⟩:=rX e he.1
       have:en∈old:=by
        simp only [old,left]
        rw [Array.mem_filter,Array.mem_filter,←h2]
        exact ⟨⟨by simpa using h1,by simpa using he.2⟩,aD⟩
       rw [Array.eq_empty_of_size_eq_zero h0] at this
       simp at this
     have I1:w1.heap[r.bz]?=some (.mapIter (some rm.bz) kB seen.toArray last):=by rw [RK.1];exact hb
     obtain ⟨cq,I3⟩:∃cq,pK[q]?=some cq:=⟨_,Array.getElem?_eq_getElem hq⟩
     have gw:∀{v' w'},(match pK[q]? with
       | some (some e)=>(do setObj r.bz (.mapIter (some rm.bz) kB (seen.toArray.push e.born) c);pure (.tuple #[.bool true,e.key,e.val]):Sem Value)
       | some none=>pure (.tuple #[.bool false])
       | none=>stuck "Next: no such candidate").run P w1=.ok v' w'→(Instr.next (.pointer (some ⟨r.bz,0+0,none⟩)) false ty).run P w=.ok v' w':=by
      intro v' w' hx
      unfold Instr.next
      simp only [add_zero,Sem.run_bind,bT,Result.andThen_ok,Q0,pQ,Bool.false_eq_true,if_false]
      show ((choose (.mapNext pK.size)).run P w).andThen _=_
      rw [QN]
      exact hx
     cases cq with
     | none=>
      -- it is Kd
      have ho:old.isEmpty=true:=by
       apply byContradiction
       intro ho
       have:(none:Option MapEntry)∈pK:=Array.mem_of_getElem? I3
       simp only [pK,if_neg ho] at this
       simp at this
      refine ⟨(.tuple #[.bool false],h),?_,.tuple #[.bool false],w1,gw (by rw [I3];rfl),ax.sr (.cons (.bool _) .nil),RK.2,hT1⟩
      rw [←hn]
      have:=hold.2 ho
      refine List.mem_append_left _ ?_
      rw [this];simp
     | some en=>
      have BH:en∈old++new:=by
       have:(some en:Option MapEntry)∈pK:=Array.mem_of_getElem? I3
       simp only [pK] at this
       rcases Array.mem_append.1 this with h1 | h1
       ·split at h1 <;> simp at h1
       ·obtain ⟨e2,h2,h3⟩:=Array.mem_map.1 h1
        cases h3
        exact h2
      have I6:en∈aK.toList∧seen.contains en.born=false:=by
       rcases Array.mem_append.1 BH with h1 | h1
       ·simp only [old,left] at h1
        rw [Array.mem_filter,Array.mem_filter] at h1
        exact ⟨by simpa using h1.1.1,by simpa using h1.1.2⟩
       ·simp only [new,left] at h1
        rw [Array.mem_filter,Array.mem_filter] at h1
        exact ⟨by simpa using h1.1.1,by simpa using h1.1.2⟩
      obtain ⟨e,he,g1,g2,g3⟩:=hz en I6.1
      have aD:=(bD sW).1
      have jm:cA h j:=.inr (.inr (.inr (.inr (.inr ⟨_,_,_,_,sW⟩))))
      have sb:=mP.obj I1 (.mapIter (some rm.bz) kB (seen.toArray.push en.born) c)
      obtain ⟨q1,q2⟩:=RK.2.set (o:=.iter i kB (seen++[e.1]) c) hr jm sb ⟨xL,rm,Jq,by rw [sb.here,g1];simp⟩
      have kO:(setObj r.bz (.mapIter (some rm.bz) kB (seen.toArray.push en.born) c)).run P w1=.ok () { w1 with heap:=w1.heap.setIfInBounds r.bz (.mapIter (some rm.bz) kB (seen.toArray.push en.born) c) }:=by
       simp [setObj,Sem.run,I1]
      refine ⟨(.tuple #[.bool true,e.2.1,e.2.2],h.set j (.iter i kB (seen++[e.1]) c)),?_,.tuple #[.bool true,en.key,en.val],_,gw (by rw [I3];simp only [Sem.run_bind,kO,Result.andThen_ok,Sem.run_pure]),?_,q1,hT1.trans q2⟩
      ·rw [←hn]
       refine List.mem_append_right _ (mem_map.2 ⟨e,?_,rfl⟩)
       have hl:e∈es.filter fun e=> !seen.contains e.1:=by
        rw [mem_filter,g1]
        exact ⟨he,by simp at I6⊢;exact I6.2⟩
       by_cases mY:e.1<kB
       ·exact List.mem_append_left _ (mem_filter.2 ⟨hl,by simpa using mY⟩)
       ·exact List.mem_append_right _ (mem_filter.2 ⟨hl,by simpa using le_of_not_lt mY⟩)
      ·rw [g2]
       have Rc:ax ρ en.key en.key:=by
        have hk:fc g en.key=true:=by
         obtain ⟨q',gK,e'⟩:=List.mem_iff_getElem.1 I6.1
         have:aK[q']?=some en:=by rw [←getElem?_toList,getElem?_eq_getElem gK,e']
         exact (E.inv this).choose_spec.2.1
        have ints:∀{kd:IntKind} {v:Value},kr kd v=true→ax ρ v v∧gA v=true:=by
         intro kd v hv
         cases v <;> simp [kr] at hv
         exact ⟨.int _ _,rfl⟩
        cases xG:en.key with
        | int kd n=>exact .int _ _
        | string s=>exact .string _
        | agg cs=>
         rw [xG] at hk
         cases g with
         | ints n kd=>
          simp only [fc,and_eq_true,all_eq_true] at hk
          refine .agg rfl (fun x hx=>(ints (hk.2 x hx).1).2) (fun k x x' hx bS=>?_)
          rw [hx] at bS
          cases bS
          exact (ints (hk.2 x (by rw [←getElem?_toList] at hx;exact mem_of_getElem? hx)).1).1
         | int _=>simp [fc,kr] at hk
         | str=>simp [fc] at hk
        | _=>rw [xG] at hk;cases g <;> simp [fc,kr] at hk
       exact ax.sr (.cons (.bool _) (.cons Rc (.cons g3 .nil)))
   ·cases hn
  ·cases hn
 ·cases hn
end
end
section
section
variable {P : Program} {N : Nat}
theorem aur {op:Op} {it:Operand} (h:iG P op=some (.next it)):op=.next it false:=by
 unfold iG at h
 split at h
 case h_13=>simp at h;subst h;rfl
 all_goals exfalso
 all_goals repeat' (split at h)
 all_goals first | (cases h;done) | (simp at h;done) | (simp only [map_eq_some_iff] at h;obtain ⟨_,_,h⟩:=h;cases h;done) | skip
theorem azO {o:Oper} {io:gW} {f:Nat→Value} {h:ae} {K:Value→ae→Prop} (hc:vz P o.op=some io) (aH:o.op.operands.all jC=true) (hs:CJ P io f h K):
  ∀R B ρ a w,ee P N B ρ f h a w→∀(next:Act→World→Prop) (Q:Exit→Act→World→Prop),
   (∀v h' av v' w',K v h'→ax av v v'→aY P av h' w'→Tr ρ h w av h' w'→next (a.put o.dst v') w')→o.wpIn (FR R) 0 P a w next Q:=by
 have det:dd P io f h K→∀R B ρ a w,ee P N B ρ f h a w→∀(next:Act→World→Prop) (Q:Exit→Act→World→Prop),
   (∀v h' av v' w',K v h'→ax av v v'→aY P av h' w'→Tr ρ h w av h' w'→next (a.put o.dst v') w')→o.wpIn (FR R) 0 P a w next Q:=by
  intro hs R B ρ a w Rr next Q hn
  obtain ⟨v,h',st,hk⟩:=Av (N:=N) hc aH hs
  exact st R B ρ a w Rr next Q fun av v' w' h1 h2 h3=>hn v h' av v' w' hk h1 h2 h3
 cases io with
 | e eo=>
  cases eo with
  | next it=>
   obtain ⟨l,hl,hk⟩:=hs
   rcases PO hc with ⟨po,e,_⟩ | ⟨lo,e,_⟩ | ⟨eo,e,he⟩ | ⟨g,args,at_,_,_,e⟩ | ⟨x,args,at_,_,e⟩
   ·cases e
   ·cases e
   ·cases e
    have cZ:=aur he
    intro R B ρ a w Rr next Q hn
    rw [cZ] at aH
    simp [Op.operands] at aH
    obtain ⟨p,hp,v',w',h1,h2,h3,h4⟩:=azB Rr.heap hl (Rr.ev aH) o.type
    exact LI (acp hc) (v:=v') (w':=w') (by simp [execOp,cZ,h1]) (hn p.1 p.2 ρ v' w' (hk p hp) h2 h3 h4)
   ·cases e
   ·cases e
  | _=>exact det hs
 | _=>exact det hs
def nX (P:Program) (N:Nat) (ops:Array Oper) (jX:List Nat) (f:Nat→Value) (h:ae) (K:(Nat→Value)→ae→Prop):Prop:=
 ∀S B ρ a w,ee P N B ρ f h a w→∀Q:Exit→Act→World→Prop,(∀f' h' av a' w',K f' h'→ee P N B av f' h' a' w'→Tr ρ h w av h' w'→Q .normal a' w')→wpOpsIn (FR S) 0 P ops Q jX a w
theorem gX.n {ops:Array Oper} {jX:List Nat} {f f':Nat→Value} {h h':ae} {K:(Nat→Value)→ae→Prop} (r:gX P N ops jX f h f' h') (hk:K f' h'):nX P N ops jX f h K:=
 fun S B ρ a w R Q hq=>r S B ρ a w R Q fun av a' w' R' T=>hq f' h' av a' w' hk R' T
theorem nX.append {ops:Array Oper} {i j:List Nat} {f:Nat→Value} {h:ae} {K K':(Nat→Value)→ae→Prop} (a:nX P N ops i f h K) (b:∀cV h₁,K cV h₁→nX P N ops j cV h₁ K'):nX P N ops (i++j) f h K':=by
 intro S B ρ ac w R Q hq
 refine uP (a S B ρ ac w R _ ?_)
 intro cV h₁ ny yF oN hk yw T
 exact b cV h₁ hk S B ny yF oN yw Q fun f' h' av a' w' b9 R' T'=>hq f' h' av a' w' b9 R' (T.trans T')
theorem nX.weaken {ops:Array Oper} {jX:List Nat} {f cV:Nat→Value} {h:ae} {K:(Nat→Value)→ae→Prop} (hw:tJ cV f) (hr:nX P N ops jX cV h K):nX P N ops jX f h K:=
 fun S B ρ a w R=>hr S B ρ a w (R.weaken hw)
theorem adp {ops:Array Oper}:∀{l:List jf} {os:List Oper} {i:Nat} {K:(Nat→Value)→ae→Prop} {f:Nat→Value} {h:ae},(∀(k:Nat) (o:Oper),os[k]?=some o→ops[i+k]?=some o)→lN P N ops os=some (qD none l)→Bt P l K f h→
  nX P N ops (range' i os.length) f h K
 | [],os,i,K,f,h,_,hc,hi=>by
  cases os with
  | nil=>exact fun S B ρ a w R Q hq=>hq f h ρ a w hi R (Tr.refl R.heap)
  | cons o os=>obtain ⟨x,xs,_,_,he⟩:=vp hc;simp [qD] at he
 | g::l,os,i,K,f,h,qL,hc,hi=>by
  cases os with
  | nil=>simp [lN,qD] at hc
  | cons o os=>
   obtain ⟨x,xs,h1,h2,he⟩:=vp hc
   simp only [qD,map_cons,List.cons.injEq] at he
   obtain ⟨rfl,rfl⟩:=he
   obtain ⟨q1,q2,q3,q4,q5⟩:=DK h1
   have ho:ops[i]?=some o:=qL 0 o rfl
   have Jl:∀(k:Nat) (o':Oper),os[k]?=some o'→ops[i+1+k]?=some o':=by
    intro k o' hk
    have:=qL (k+1) o' (by simpa using hk)
    rw [show i+(k+1)=i+1+k by omega] at this
    exact this
   intro S B ρ a w R Q hq
   rw [length_cons,List.range'_succ]
   simp only [wpOpsIn,ho]
   rw [if_pos (by rw [F0 q4 R trivial];rfl)]
   have bK:CJ P g.op f h fun v h'=>Bt P l K (dG f g.dst v) h':=hi
   refine azO q3 q1 bK S B ρ a w R _ _ ?_
   intro v h' av v' w' hk hv H T
   have q5':g.dst=o.dst:=q5
   rw [q5'] at hk
   exact adp Jl h2 hk S B av _ w' (R.uF q2 T hv H) Q fun DW aT mL sJ jZ awQ oV T'=>hq DW aT mL sJ jZ awQ oV (T.trans T')
theorem acu {ls:List Nat} {c:fa} {K:Exit→(Nat→Value)→ae→Prop} {f:Nat→Value} {h:ae} (hi:lW P (xd ls c) K f h):∃f',tJ f' f∧lW P c K f' h:=by
 cases ls with
 | nil=>exact ⟨f,fun _=>.inl rfl,hi⟩
 | cons l ls=>exact ⟨_,Fh f (l::ls),hi⟩
theorem aDA {ops:Array Oper}:∀{gs:List (Option (Nat×Bool)×List jf)} {hs:Hints} {os:List Oper} {i:Nat} {K:Exit→(Nat→Value)→ae→Prop} {f:Nat→Value} {h:ae},
  (∀(k:Nat) (o:Oper),os[k]?=some o→ops[i+k]?=some o)→lN P N ops os=some (oh gs)→(∀g l,(g,l)∈gs→∀o∈l,leaves g o.dst=true)→lW P (rp gs hs).1 K f h→
  nX P N ops (range' i os.length) f h (K .normal):=by
 intro gs
 induction gs with
 | nil=>
  intro hs os i K f h qL hc _ hi
  cases os with
  | nil=>exact fun S B ρ a w R Q hq=>hq f h ρ a w hi R (Tr.refl R.heap)
  | cons o os=>
   obtain ⟨x,xs,_,_,he⟩:=vp hc
   simp [oh] at he
 | cons a gs ih=>
  obtain ⟨g,l⟩:=a
  intro hs os i K f h qL hc hl hi
  simp only [oh] at hc
  obtain ⟨lZ,gE,rfl,c0,c1⟩:=PM hc
  have Jm:∀(k:Nat) (o:Oper),lZ[k]?=some o→ops[i+k]?=some o:=by
   intro k o hk
   refine qL k o ?_
   rw [getElem?_append_left (bD hk).1]
   exact hk
  have Ri:∀(k:Nat) (o:Oper),gE[k]?=some o→ops[i+lZ.length+k]?=some o:=by
   intro k o hk
   rw [Nat.add_assoc]
   refine qL _ o ?_
   rw [List.getElem?_append_right (by omega)]
   simpa using hk
  have first:∀{K:(Nat→Value)→ae→Prop},J9 P g l K f h→nX P N ops (range' i lZ.length) f h K:=by
   intro K hk
   cases g with
   | none=>exact adp Jm c0 hk
   | some sb=>
    obtain ⟨f',h',r1,r2⟩:=JA Jm c0 (ah8 (fun o ho=>hl _ l (by simp) o ho) hk)
    exact r1.n r2
  have both:∀{MW:(Nat→Value)→ae→Prop},nX P N ops (range' i lZ.length) f h MW→(∀cV h₁,MW cV h₁→nX P N ops (range' (i+lZ.length) gE.length) cV h₁ (K .normal))→nX P N ops (range' i (lZ++gE).length) f h (K .normal):=by
   intro MW a b
   rw [List.length_append,←List.range'_append_1]
   exact a.append b
  have rest:∀{hs:Hints} {cV:Nat→Value} {h₁:ae},lW P (rp gs hs).1 K cV h₁→nX P N ops (range' (i+lZ.length) gE.length) cV h₁ (K .normal):=
   fun hk=>ih Ri c1 (fun g' l' hm=>hl g' l' (by simp [hm])) hk
  cases gs with
  | nil=>
   have EC:lW P (.ops g l) K f h:=by
    cases hs <;> exact hi
   have r1:=first EC
   have h1:gE=[]:=by
    cases gE with
    | nil=>rfl
    | cons o os=>obtain ⟨x,xs,_,_,he⟩:=vp c1;simp [oh] at he
   subst h1
   simpa using r1
  | cons b gs=>
   cases hs with
   | nil=>exact both (first (K:=fun f h=>lW P (rp (b::gs) []).1 K f h) hi) fun cV h₁ r2=>rest r2
   | cons h0 hs=>
    refine both (first (K:=fun f h=>lW P (xd h0 (rp (b::gs) hs).1) K f h) hi) fun cV h₁ r2=>?_
    obtain ⟨Qo,hw,r3⟩:=acu r2
    exact (rest r3).weaken hw
def yu (P:Program) (N B:Nat) (ρ:aL) (h:ae) (w:World) (K:ar):Exit→Act→World→Prop:=
 fun e a' w'=>∃f' h' av,K e f' h'∧ee P N B av f' h' a' w'∧Tr ρ h w av h' w'
def wY (P:Program) (N:Nat) (out:Bool) (c:Code) (f:Nat→Value) (h:ae) (K:ar):Prop:=
 ∀S,(out=true→S=none)→∀B ρ a w,ee P N B ρ f h a w→c.wpIn (FR S) 0 P (yu P N B ρ h w K) a w
def A4 (P:Program) (N:Nat) (out:Bool) (c:Code) (f:Nat→Value) (h:ae) (K:ar):Prop:=
 ∀S,(out=true→S=none)→∀B ρ a w,ee P N B ρ f h a w→re S P c (yu P N B ρ h w K) a w
variable {out : Bool}
theorem gR.n {c:Code} {f f':Nat→Value} {h h':ae} {e:Exit} {K:ar} (r:gR P N out c f h e f' h') (hk:K e f' h'):wY P N out c f h K:=by
 intro S hS B ρ a w R
 refine wpIn_mono (r S hS B ρ a w R) ?_
 rintro e' a' w' ⟨rfl,av,R',T⟩
 exact ⟨f',h',av,hk,R',T⟩
theorem yu.trans {B:Nat} {ρ ny:aL} {h h₁:ae} {w oN:World} {K:ar} (T:Tr ρ h w ny h₁ oN):∀e' a' w',yu P N B ny h₁ oN K e' a' w'→yu P N B ρ h w K e' a' w':=by
 rintro e' a' w' ⟨f',h',av,hk,R,T'⟩
 exact ⟨f',h',av,hk,R,T.trans T'⟩
theorem wY.weaken {c:Code} {f cV:Nat→Value} {h:ae} {K:ar} (hw:tJ cV f) (hr:wY P N out c cV h K):wY P N out c f h K:=
 fun S hS B ρ a w R=>hr S hS B ρ a w (R.weaken hw)
theorem A4.weaken {c:Code} {f cV:Nat→Value} {h:ae} {K:ar} (hw:tJ cV f) (hr:A4 P N out c cV h K):A4 P N out c f h K:=
 fun S hS B ρ a w R=>hr S hS B ρ a w (R.weaken hw)
theorem ax3 {out:Bool}:∀{c:Code} {hs dX:Hints} {ic:fa},fm P N c hs=some (ic,dX)→(out=true∨iE c=true)→∀{K:ar} {f:Nat→Value} {h:ae},lW P ic K f h→wY P N out c f h K:=by
 intro c
 induction c with
 | skip=>
  intro hs dX ic hc ho K f h hi
  simp [fm] at hc
  obtain ⟨rfl,_⟩:=hc
  exact fun S hS B ρ a w R=>wpIn_skip ⟨f,h,ρ,hi,R,Tr.refl R.heap⟩
 | region id ops draw=>
  intro hs dX ic hc ho K f h hi
  cases draw with
  | true=>
   simp only [fm] at hc
   split at hc
   ·rename_i l hl
    split at hc
    ·rename_i vP
     simp at hc
     obtain ⟨rfl,_⟩:=hc
     have gu:=adi (acE vP) hi
     rw [Is] at gu
     obtain ⟨f',h',r1,r2⟩:=ae3 (id:=id) hl gu
     exact r1.n r2
    ·cases hc
   ·cases hc
  | false=>
   simp only [fm] at hc
   split at hc
   ·rename_i l hl
    split at hc
    ·rename_i vP
     simp only [Option.some.injEq] at hc
     have he:ic=(rp (tZ l) hs).1:=by rw [hc]
     subst he
     have r1:=aDA (i:=0) (os:=ops.toList) (ops:=ops) (fun k o hk=>by simpa using hk) (by rw [IL];exact hl) (afD vP) hi
     intro S hS B ρ a w R
     refine wpIn_region ?_
     rw [List.range_eq_range']
     have r1':nX P N ops (range' 0 ops.size) f h (K .normal):=by simpa using r1
     refine r1' S B ρ a w R _ ?_
     intro f' h' av a' w' hk R' T
     exact ⟨f',h',av,hk,R',T⟩
    ·cases hc
   ·simp at hc
    obtain ⟨rfl,_⟩:=hc
    exact (show False from hi).elim
 | seq x y Ac Ad=>
  intro hs dX ic hc ho K f h hi
  have zK:out=true∨iE x=true:=ho.imp id fun h=>by simp only [iE,and_eq_true] at h;exact h.1
  have zL:out=true∨iE y=true:=ho.imp id fun h=>by simp only [iE,and_eq_true] at h;exact h.2
  have both:∀{a b:fa} {h0 iY jH:Hints} {ls:List Nat},fm P N x hs=some (a,h0)→fm P N y iY=some (b,jH)→lW P (.seq a (xd ls b)) K f h→wY P N out (.seq x y) f h K:=by
   intro a b h0 iY jH ls ha hb hi
   have r1:=Ac ha zK hi
   intro S hS B ρ ac w R
   refine wpIn_seq (wpIn_mono (r1 S hS B ρ ac w R) ?_)
   rintro e' a' w' ⟨cV,h₁,ny,hk,yw,T⟩
   cases e' with
   | normal=>
    obtain ⟨Qo,hw,r3⟩:=acu hk
    exact wpIn_mono (((Ad hb zL r3).weaken hw) S hS B ny a' w' yw) (yu.trans T)
   | _=>exact ⟨cV,h₁,ny,hk,yw,T⟩
  simp only [fm] at hc
  split at hc
  ·rename_i a h0 iY ha
   split at hc
   ·rename_i b jH hb
    simp at hc
    obtain ⟨rfl,_⟩:=hc
    exact both ha hb hi
   ·cases hc
  ·rename_i a ha
   split at hc
   ·rename_i b jH hb
    simp at hc
    obtain ⟨rfl,_⟩:=hc
    exact both (ls:=[]) ha hb hi
   ·cases hc
  ·cases hc
 | cond c x y Ac Ad=>
  intro hs dX ic hc ho K f h hi
  have zK:out=true∨iE x=true:=ho.imp id fun h=>by simp only [iE,and_eq_true] at h;exact h.1
  have zL:out=true∨iE y=true:=ho.imp id fun h=>by simp only [iE,and_eq_true] at h;exact h.2
  simp only [fm] at hc
  split at hc
  ·rename_i aH
   split at hc
   ·rename_i a iY ha
    split at hc
    ·rename_i b jH hb
     simp at hc
     obtain ⟨rfl,_⟩:=hc
     have hi:pN (ev f c) (lW P a K f h) (lW P b K f h):=hi
     simp only [pN] at hi
     split at hi
     ·rename_i t ht
      have go:wY P N out (if t then x else y) f h K→wY P N out (.cond c x y) f h K:=by
       intro r S hS B ρ ac w R
       have:=R.ev aH
       rw [ht] at this
       exact wpIn_cond this.yJ (r S hS B ρ ac w R)
      cases t
      ·simp at hi
       exact go (by simpa using Ad hb zL hi)
      ·simp at hi
       exact go (by simpa using Ac ha zK hi)
     ·exact hi.elim
    ·cases hc
   ·cases hc
  ·cases hc
 | block id c ih=>
  intro hs dX ic hc ho K f h hi
  simp only [fm] at hc
  split at hc
  ·rename_i a iY ha
   simp at hc
   obtain ⟨rfl,_⟩:=hc
   have r1:=ih ha (ho.imp (fun h=>h) fun h=>h) (K:=bO id K) hi
   intro S hS B ρ ac w R
   refine wpIn_block (wpIn_mono (r1 S hS B ρ ac w R) ?_)
   rintro e' a' w' ⟨f',h',av,hk,R',T⟩
   cases e' with
   | exit i=>
    simp only [Exit.inBlock,bO] at hk⊢
    split <;> rename_i h
    ·rw [if_pos h] at hk;exact ⟨f',h',av,hk,R',T⟩
    ·rw [if_neg h] at hk;exact ⟨f',h',av,hk,R',T⟩
   | _=>exact ⟨f',h',av,hk,R',T⟩
  ·cases hc
 | loop c ih=>
  intro hs dX ic hc ho K f h hi
  simp only [fm] at hc
  split at hc
  ·rename_i ks ls iY
   split at hc
   ·rename_i a jH ha
    simp at hc
    obtain ⟨rfl,_⟩:=hc
    obtain ⟨J,μ,h0,Ry⟩:=hi
    have key:∀(n:Nat) (xs:List Value) (hh:ae),μ xs hh=n→J xs hh→A4 P N out c (kA (ks++ls) (ks.map f++xs)) hh K:=by
     intro n
     induction n using Nat.strongRecOn with
     | _ n th=>
      intro xs hh hn hJ
      have r1:=ih ha (ho.imp (fun h=>h) fun h=>h) (Ry xs hh hJ)
      intro S hS B ρ ac w R
      refine re.round (wpIn_mono (r1 S hS B ρ ac w R) ?_)
      rintro e' a' w' ⟨cV,h₁,ny,hk,yw,T⟩
      cases e' with
      | normal=>
       obtain ⟨hk,QG,aD⟩:=hk
       have s1:=th (μ (ls.map cV) h₁) (by omega) (ls.map cV) h₁ rfl QG
       have s2:A4 P N out c cV h₁ K:=s1.weaken (by rw [←hk];exact J7 cV ks ls _ rfl)
       exact (s2 S hS B ny a' w' yw).mono (yu.trans T)
      | _=>exact ⟨cV,h₁,ny,hk,yw,T⟩
    have s1:A4 P N out c f h K:=(key _ (ls.map f) h rfl h0).weaken (J7 f ks ls _ rfl)
    exact fun S hS B ρ ac w R=>(s1 S hS B ρ ac w R).wp
   ·cases hc
  ·cases hc
 | exit id=>
  intro hs dX ic hc ho K f h hi
  simp [fm] at hc
  obtain ⟨rfl,_⟩:=hc
  exact fun S hS B ρ a w R=>wpIn_exit ⟨f,h,ρ,hi,R,Tr.refl R.heap⟩
 | ret=>
  intro hs dX ic hc ho K f h hi
  simp [fm] at hc
  obtain ⟨rfl,_⟩:=hc
  exact fun S hS B ρ a w R=>wpIn_ret ⟨f,h,ρ,hi,R,Tr.refl R.heap⟩
 | rangeFunc g ps kj body=>
  intro hs dX ic hc ho K f h hi
  have ho:out=true:=ho.resolve_right (by simp [iE])
  subst ho
  simp only [fm] at hc
  split at hc
  ·rename_i ls iY
   split at hc
   ·rename_i hk
    simp at hc
    obtain ⟨rfl,_⟩:=hc
    simp only [and_eq_true] at hk
    obtain ⟨h',r1,r2⟩:=alU hk.1 hi
    exact r1.n r2
   ·cases hc
  ·cases hc
 | _=>intro hs dX ic hc;simp [fm] at hc
end
def R6 (P:Program) (F:FuncId) (args:List Value) (h:ae) (K:Value→ae→Prop):Prop:=
 ∀(ρ:aL) (args':Array Value) (w:World),bF ρ args args'.toList→aY P ρ h w→
  Calls P F args' w fun e w'=>∃v h' v' av,K v h'∧e=.returned v'∧ax av v v'∧aY P av h' w'∧Tr ρ h w av h' w'
theorem axH {P:Program} {F:FuncId} {N:Nat} {ic:fa} {rs:List kG} {hs:Hints} {h:ae} (hc:bC P F hs=some (N,ic,rs)) {args:List Value} (ha:args.length≤N) {K:Value→ae→Prop}
  (hi:lW P ic (OU rs K) (bw args) h):R6 P F args h K:=by
 unfold bC at hc
 split at hc
 ·rename_i fn hf
  split at hc
  ·rename_i c hb
   split at hc
   ·rename_i ic' _ Vb h1 h2
    simp at hc
    obtain ⟨hN,rfl,rfl⟩:=hc
    have r1:=ax3 (out:=true) h1 (.inl rfl) hi
    intro ρ args' w hv H
    refine callsIn_wide.1 (callsIn_of_wp_marks (F:=Fence.wide) (n:=0) hf hb trivial ?_ rfl)
    have kn:args'.size=args.length:=by have:=hv.length;simpa using this.symm
    have R:ee P fn.ntmps w.heap.size ρ (bw args) h { tmps:=args'++replicate (fn.ntmps-args'.size) Go.undef,defers:=[] } w:=⟨by simp;omega,le_refl _,adb hv fn.ntmps,H⟩
    refine wpIn_mono (r1 none (fun _=>rfl) _ ρ _ w R) ?_
    rintro e' a' w' ⟨f',h',av,hk,R',T⟩
    have ta:(e'=.normal∨e'=.ret)∧K1 Vb K f' h':=by
     cases e' <;> first | exact ⟨.inl rfl,hk⟩ | exact ⟨.inr rfl,hk⟩ | exact hk.elim
    obtain ⟨he,ta⟩:=ta
    obtain ⟨vs,uk,ta⟩:=K3 ta
    have key:LeavesInM Fence.wide 0 P fn a'.tmps (fun e w'=>∃v h' v' av,K v h'∧e=.returned v'∧ax av v v'∧aY P av h' w'∧Tr ρ h w av h' w') a'.defers .returning w':=by
     refine Sw R'.defers R'.heap T ?_
     intro jZ Db tP
     have oV:ee P fn.ntmps 0 av f' h' { a' with defers:=[] } jZ:=⟨R'.size,Nat.zero_le _,R'.tmp,Db⟩
     obtain ⟨v',q1,q2⟩:=ame oV h2 uk
     exact ⟨v',q1,pack vs,h',v',av,ta,rfl,q2,Db,tP⟩
    rcases he with rfl | rfl
    ·exact key
    ·exact key
   ·cases hc
  ·cases hc
 ·cases hc
end
end Go.Sim
