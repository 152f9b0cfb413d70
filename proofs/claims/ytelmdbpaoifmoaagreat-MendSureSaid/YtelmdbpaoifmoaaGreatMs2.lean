/-
  Part 2 of the texts behind a statement of this seat: Sim15, Sim17, Sim18, Sim18b, Sim18c, Sim18d, Sim18e, Sim18f, Sim19, Sim19b, Sim16, Sim20, Sim21, Sim23, Sim24, Sim25, Sim26.
-/
import Derived.ProofKit
import Derived.OpenShut
import Derived.Test.YtelmdbpaoifmoaaGreatMs1
open Array (getElem?_toList replicate)
open Bool (and_eq_true or_eq_true)
open Classical (byContradiction choose_spec)
open List (all_eq_true cons_append getD getElem?_append_left getElem?_eq_getElem getElem?_eq_none getElem?_set_ne getElem?_set_self length_cons map_cons mem_cons mem_cons_of_mem mem_filter mem_map mem_of_getElem? mem_range nodup_cons range')
open Nat (add_zero le_of_not_lt le_refl zero_add)
open Option (bind_some getD_some map_eq_some_iff map_some)
namespace Go.Sim
section
section
variable {P : Program} {N : Nat}
def hX (P:Program) (N:Nat) (ops:Array Oper) (j6:List Nat) (f:Nat→Value) (h:ae) (f':Nat→Value) (h':ae):Prop:=
 ∀S B ρ a w,ep P N B ρ f h a w→∀Q:Exit→Act→World→Prop,(∀av a' w',ep P N B av f' h' a' w'→Tr ρ h w av h' w'→Q .normal a' w')→wpOpsIn (FR S) 0 P ops Q j6 a w
theorem hX.nil {ops:Array Oper} {f:Nat→Value} {h:ae}:hX P N ops [] f h f h:=fun _ _ ρ a w R _ hq=>hq ρ a w R (Tr.refl R.heap)
theorem ep.vh {B:Nat} {ρ av:aI} {f:Nat→Value} {h h':ae} {a:Act} {w w':World} (R:ep P N B ρ f h a w) {d:Option Nat} (hd:d.all (·<N)=true) {v v':Value} (T:Tr ρ h w av h' w') (hv:ay av v v') (H:aX P av h' w'):
  ep P N B av (dK f d v) h' (a.put d v') w':=by
 cases d with
 | none=>exact R.mono T H
 | some d=>exact R.put (by simpa using hd) T hv H
theorem hX.step {ops:Array Oper} {i:Nat} {j6:List Nat} {o:Oper} {f f':Nat→Value} {h h₁ h':ae} {v:Value} (ho:ops[i]?=some o) (hd:o.dst.all (·<N)=true)
  (hw:∀B ρ a w,ep P N B ρ f h a w→Region.wanted o (yielded ops a.tmps)=true) (hs:GO P N o f h v h₁) (hr:hX P N ops j6 (dK f o.dst v) h₁ f' h'):hX P N ops (i::j6) f h f' h':=by
 intro S B ρ a w R Q hq
 simp only [wpOpsIn,ho]
 rw [if_pos (hw B ρ a w R)]
 refine hs S B ρ a w R _ _ ?_
 intro av v' w' hv H T
 exact hr S B av _ w' (R.vh hd T hv H) Q fun mS sO ke oP T'=>hq mS sO ke oP (T.trans T')
theorem hX.pass {ops:Array Oper} {i:Nat} {j6:List Nat} {o:Oper} {f f':Nat→Value} {h h':ae} (ho:ops[i]?=some o) (hd:o.dst.all (·<N)=true)
  (hw:∀B ρ a w,ep P N B ρ f h a w→Region.wanted o (yielded ops a.tmps)=false) (hr:hX P N ops j6 (dK f o.dst undef) h f' h'):hX P N ops (i::j6) f h f' h':=by
 intro S B ρ a w R Q hq
 simp only [wpOpsIn,ho]
 rw [if_neg (by rw [hw B ρ a w R];simp)]
 exact ⟨fun _ _=>trivial,hr S B ρ _ w (R.vh hd (Tr.refl R.heap) (ay.undef _) R.heap) Q hq⟩
def sU (g:Option (Nat×Bool)) (f:Nat→Value):Prop:=
 match g with
 | none=>True
 | some (s,_)=>wK (f s)=false
theorem ayq {ρ:aI} {v v':Value} (h:ay ρ v v') (hb:wK v=false) (b:Bool):qV v' b=qV v b:=by
 cases h <;> first | rfl | simp [wK] at hb
theorem IX {v:Value} {b:Bool} {A B:Prop} (h:kP v b A B):wK v=false∧((qV v b=true∧A)∨(qV v b=false∧B)):=by
 unfold kP at h
 split at h
 ·rename_i c
  refine ⟨rfl,?_⟩
  split at h
  ·rename_i hc;exact .inl ⟨hc,h⟩
  ·rename_i hc;exact .inr ⟨by simpa [qV] using hc,h⟩
 ·exact h.elim
 ·rename_i x h1 h2
  have e1:wK v=false:=by
   cases v <;> first | rfl | exact absurd rfl (h2 _ _ _)
  have e2:qV v b=false:=by
   cases v <;> first | rfl | exact absurd rfl (h1 _)
  exact ⟨e1,.inr ⟨e2,h⟩⟩
theorem F3 {ops:Array Oper} {o:Oper} {g:Option (Nat×Bool)} (hg:Iq N ops o.guard=some g) {B:Nat} {ρ:aI} {f:Nat→Value} {h:ae} {a:Act} {w:World} (R:ep P N B ρ f h a w) (hb:sU g f):
  Region.wanted o (yielded ops a.tmps)=iW g f:=by
 unfold Iq at hg
 unfold Region.wanted
 cases kT:o.guard with
 | none=>rw [kT] at hg;simp at hg;subst hg;rfl
 | some jb=>
  obtain ⟨j,b⟩:=jb
  rw [kT] at hg
  simp only at hg⊢
  split at hg
  ·rename_i s hs
   split at hg
   ·rename_i aB
    simp at hg;subst hg
    simp only [iW]
    have hr:=R.tmp s
    have kU:s<a.tmps.size:=by rw [R.size];exact aB
    have bQ:a.tmps[s]?=some (a.tmps.getD s Go.undef):=by simp [Array.getD,kU]
    rw [←ayq hr hb b]
    unfold yielded
    rw [hs]
    simp only [bind_some,bQ]
    generalize a.tmps.getD s Go.undef=u
    cases u <;> simp [qV]
   ·cases hg
  ·cases hg
def tY (f' f:Nat→Value):Prop:=∀t,f' t=f t∨f' t=Zi
theorem ep.weaken {B:Nat} {ρ:aI} {f f':Nat→Value} {h:ae} {a:Act} {w:World} (R:ep P N B ρ f h a w) (hw:tY f' f):ep P N B ρ f' h a w:=
 ⟨R.size,R.defers,fun t=>(hw t).elim (fun e=>by rw [e];exact R.tmp t) (fun e=>by rw [e];exact .any _),R.heap⟩
theorem Fm (f:Nat→Value):∀ls:List Nat,tY (kD ls (ls.map f)) f
 | [],t=>.inr rfl
 | l::ls,t=>by
  simp only [map_cons,azT]
  by_cases h:t=l
  ·subst h;simp
  ·rw [if_neg h];exact Fm f ls t
theorem hX.weaken {ops:Array Oper} {j6:List Nat} {f cT f':Nat→Value} {h h':ae} (hw:tY cT f) (hr:hX P N ops j6 cT h f' h'):hX P N ops j6 f h f' h':=
 fun S B ρ a w R=>hr S B ρ a w (R.weaken hw)
theorem gT.weaken {b:Bool} {c:Code} {f cT f':Nat→Value} {h h':ae} {e:Exit} (hw:tY cT f) (hr:gT P N b c cT h e f' h'):gT P N b c f h e f' h':=
 fun S hS B ρ a w R=>hr S hS B ρ a w (R.weaken hw)
theorem vC {S:Option Nat} {ops:Array Oper} {Q:Exit→Act→World→Prop}:∀{i j:List Nat} {a:Act} {w:World},wpOpsIn (FR S) 0 P ops (fun e a w=>match e with | .normal=>wpOpsIn (FR S) 0 P ops Q j a w | e=>Q e a w) i a w→wpOpsIn (FR S) 0 P ops Q (i++j) a w
 | [],j,a,w,h=>h
 | i::is,j,a,w,h=>by
  simp only [cons_append,wpOpsIn] at h⊢
  cases ho:ops[i]? with
  | none=>rw [ho] at h;exact vC h
  | some o=>
   rw [ho] at h
   simp only at h⊢
   split at h
   ·rename_i hw
    rw [if_pos hw]
    obtain ⟨h0,h⟩:=h
    refine ⟨h0,?_⟩
    generalize (o.semAt (FR S).round a.eval).run P w=r at h⊢
    cases r with
    | ok x w'=>
     cases x <;> simp only [Oper.uponIn] at h⊢
     ·exact vC h
     ·exact vC h
     ·refine ⟨h.1,h.2.mono ?_⟩
      rintro e ke hR
      cases e with
      | returned v=>exact vC hR
      | panicked chain=>exact hR
      | outgrown=>exact hR
     ·refine ⟨h.1,h.2.mono ?_⟩
      rintro e ke hR
      cases e with
      | returned v=>exact vC hR
      | panicked chain=>exact hR
      | outgrown=>exact hR
     ·exact vC h
     ·refine ⟨h.1,h.2.mono ?_⟩
      rintro v ke hR
      exact vC hR
    | halt x w'=>
     cases x <;> simp only [Oper.uponIn] at h⊢
     exact h
   ·rename_i hw
    rw [if_neg hw]
    exact ⟨h.1,vC h.2⟩
theorem hX.append {ops:Array Oper} {i j:List Nat} {f cT f':Nat→Value} {h h₁ h':ae} (a:hX P N ops i f h cT h₁) (b:hX P N ops j cT h₁ f' h'):hX P N ops (i++j) f h f' h':=by
 intro S B ρ ac w R Q hq
 refine vC (a S B ρ ac w R _ ?_)
 intro av a' w' R' T
 exact b S B av a' w' R' Q fun mS sO ke oP T'=>hq mS sO ke oP (T.trans T')
theorem DR {ops:Array Oper} {o:Oper} {x:iZ} (h:zm P N ops o=some x):
  o.op.operands.all jy=true∧o.dst.all (·<N)=true∧vS P o.op=some x.op∧Iq N ops o.guard=some x.guard∧x.dst=o.dst:=by
 unfold zm at h
 split at h
 ·rename_i hc
  simp only [and_eq_true] at hc
  split at h
  ·rename_i op g h1 h2
   simp at h;subst h
   exact ⟨hc.1,hc.2,h1,h2,rfl⟩
  ·cases h
 ·cases h
theorem vR {ops:Array Oper} {o:Oper} {os:List Oper} {l:List iZ} (h:lQ P N ops (o::os)=some l):∃x xs,zm P N ops o=some x∧lQ P N ops os=some xs∧l=x::xs:=by
 simp only [lQ] at h
 split at h
 ·rename_i x xs h1 h2
  simp at h
  exact ⟨x,xs,h1,h2,h.symm⟩
 ·cases h
theorem JJ {ops:Array Oper}:∀{os:List Oper} {l:List iZ} {i:Nat} {K:(Nat→Value)→ae→Prop} {f:Nat→Value} {h:ae},(∀(k:Nat) (o:Oper),os[k]?=some o→ops[i+k]?=some o)→lQ P N ops os=some l→tE P l K f h→
  ∃f' h',hX P N ops (range' i os.length) f h f' h'∧K f' h'
 | [],l,i,K,f,h,_,hc,hi=>by
  simp [lQ] at hc
  subst hc
  exact ⟨f,h,hX.nil,hi⟩
 | o::os,l,i,K,f,h,qK,hc,hi=>by
  obtain ⟨x,xs,h1,h2,rfl⟩:=vR hc
  obtain ⟨q1,q2,q3,q4,q5⟩:=DR h1
  have ho:ops[i]?=some o:=qK 0 o rfl
  have Jt:∀(k:Nat) (o':Oper),os[k]?=some o'→ops[i+1+k]?=some o':=by
   intro k o' hk
   have:=qK (k+1) o' (by simpa using hk)
   rw [show i+(k+1)=i+1+k by omega] at this
   exact this
  have go:∀(_:sU x.guard f) (_:iW x.guard f=true),dc P x.op f h (fun v h'=>tE P xs K (dK f x.dst v) h')→
    ∃f' h',hX P N ops (range' i (o::os).length) f h f' h'∧K f' h':=by
   intro hb hw hs
   obtain ⟨v,h',b7,hk⟩:=AR (N:=N) q3 q1 hs
   obtain ⟨D5,aU,r1,r2⟩:=JJ Jt h2 hk
   refine ⟨D5,aU,?_,r2⟩
   rw [length_cons,List.range'_succ]
   rw [q5] at r1
   exact hX.step ho q2 (fun B ρ a w R=>by rw [F3 q4 R hb,hw]) b7 r1
  have skip:∀(_:sU x.guard f) (_:iW x.guard f=false),tE P xs K (dK f x.dst undef) h→
    ∃f' h',hX P N ops (range' i (o::os).length) f h f' h'∧K f' h':=by
   intro hb hw hs
   obtain ⟨D5,aU,r1,r2⟩:=JJ Jt h2 hs
   refine ⟨D5,aU,?_,r2⟩
   rw [length_cons,List.range'_succ]
   rw [q5] at r1
   exact hX.pass ho q2 (fun B ρ a w R=>by rw [F3 q4 R hb,hw]) r1
  simp only [tE] at hi
  split at hi
  ·rename_i kT
   exact go (by rw [kT];trivial) (by rw [kT];rfl) hi
  ·rename_i s b kT
   obtain ⟨e1,e2⟩:=IX hi
   rcases e2 with ⟨e2,e3⟩ | ⟨e2,e3⟩
   ·exact go (by rw [kT];exact e1) (by rw [kT];exact e2) e3
   ·exact skip (by rw [kT];exact e1) (by rw [kT];exact e2) e3
def qx (g:Option (Nat×Bool)) (l:List jj):List iZ:=l.map fun o=>⟨o.dst,o.op,g⟩
def nZ:List (Option (Nat×Bool)×List jj)→List iZ
 | []=>[]
 | (g,l)::gs=>qx g l++nZ gs
theorem IP:∀os:List iZ,nZ (uG os)=os
 | []=>rfl
 | o::os=>by
  have ih:=IP os
  simp only [uG]
  cases hg:uG os with
  | nil=>
   rw [hg] at ih
   simp only [nZ] at ih
   subst ih
   simp [nZ,qx]
  | cons a gs=>
   obtain ⟨g,l⟩:=a
   rw [hg] at ih
   simp only
   split
   ·rename_i he
    simp only [nZ,qx,map_cons,cons_append] at ih⊢
    rw [ih,←he]
   ·simp only [nZ,qx,map_cons,List.map_nil,cons_append,List.nil_append] at ih⊢
    rw [ih]
theorem QH {v:Value} {b:Bool} {A B:Prop} (hb:wK v=false) (hA:qV v b=true→A) (hB:qV v b=false→B):kP v b A B:=by
 unfold kP
 split
 ·split
  ·rename_i c hc;exact hA hc
  ·rename_i c hc;exact hB (by simpa [qV] using hc)
 ·simp [wK] at hb
 ·rename_i x h1 h2
  refine hB ?_
  cases v <;> first | rfl | exact absurd rfl (h1 _)
theorem aiz {g:Option (Nat×Bool)} {K:(Nat→Value)→ae→Prop}:∀{l:List jj} {f:Nat→Value} {h:ae},(∀o∈l,leaves g o.dst=true)→tL P g l K f h→tE P (qx g l) K f h:=by
 intro l f h hl hk
 cases g with
 | none=>
  simp only [tL] at hk
  clear hl
  induction l generalizing f h with
  | nil=>exact hk
  | cons o l ih=>
   simp only [xT] at hk
   simp only [qx,map_cons,tE]
   have:dc P o.op f h (fun v h'=>tE P (qx none l) K (dK f o.dst v) h'):=by
    have mono:∀{io:hO} {K K':Value→ae→Prop},(∀v h,K v h→K' v h)→dc P io f h K→dc P io f h K':=by
     intro io K K' hm hs
     cases io with
     | p po=>simp only [dc,fE] at hs⊢;split at hs <;> first | exact hm _ _ hs | exact hs.elim
     | l lo=>simp only [dc,fE] at hs⊢;split at hs <;> first | exact hm _ _ hs | exact hs.elim
     | e eo=>simp only [dc,nO] at hs⊢;split at hs <;> first | exact hm _ _ hs | exact hs.elim
     | call g args=>exact hs.mono hm
     | lh x args=>simp only [dc,uu] at hs⊢;split at hs <;> first | exact ⟨hs.1,hs.2.mono hm⟩ | exact hs.elim
    exact mono (fun v h' cW=>ih cW) hk
   exact this
 | some sb=>
  obtain ⟨s,b⟩:=sb
  simp only [tL] at hk
  obtain ⟨e1,e2⟩:=IX hk
  clear hk
  induction l generalizing f h with
  | nil=>
   rcases e2 with ⟨_,e⟩ | ⟨_,e⟩ <;> exact e
  | cons o l ih=>
   have hd:o.dst≠some s:=by simpa [leaves] using hl o (by simp)
   have hs:∀v,dK f o.dst v s=f s:=by
    intro v
    cases ho:o.dst with
    | none=>rfl
    | some d=>
     have:s≠d:=by rintro rfl;exact hd ho
     simp [dK,tV,this]
   simp only [qx,map_cons,tE]
   refine QH e1 (fun hb=>?_) (fun hb=>?_)
   ·rcases e2 with ⟨_,e⟩ | ⟨e,_⟩
    ·simp only [xT] at e
     have mono:∀{io:hO} {K K':Value→ae→Prop},(∀v h,K v h→K' v h)→dc P io f h K→dc P io f h K':=by
      intro io K K' hm hs
      cases io with
      | p po=>simp only [dc,fE] at hs⊢;split at hs <;> first | exact hm _ _ hs | exact hs.elim
      | l lo=>simp only [dc,fE] at hs⊢;split at hs <;> first | exact hm _ _ hs | exact hs.elim
      | e eo=>simp only [dc,nO] at hs⊢;split at hs <;> first | exact hm _ _ hs | exact hs.elim
      | call g args=>exact hs.mono hm
      | lh x args=>simp only [dc,uu] at hs⊢;split at hs <;> first | exact ⟨hs.1,hs.2.mono hm⟩ | exact hs.elim
     refine mono (fun v h' cW=>?_) e
     exact ih (fun o' dN=>hl o' (by simp [dN])) (by rw [hs];exact e1) (.inl ⟨by rw [hs];exact hb,cW⟩)
    ·rw [hb] at e;cases e
   ·rcases e2 with ⟨e,_⟩ | ⟨_,e⟩
    ·rw [hb] at e;cases e
    ·exact ih (fun o' dN=>hl o' (by simp [dN])) (by rw [hs];exact e1) (.inr ⟨by rw [hs];exact hb,e⟩)
theorem PU {ops:Array Oper}:∀{os:List Oper} {m0 m1:List iZ},lQ P N ops os=some (m0++m1)→∃mf gu,os=mf++gu∧lQ P N ops mf=some m0∧lQ P N ops gu=some m1
 | os,[],m1,h=>⟨[],os,rfl,rfl,h⟩
 | [],x::m0,m1,h=>by simp [lQ] at h
 | o::os,x::m0,m1,h=>by
  obtain ⟨y,ys,h1,h2,he⟩:=vR h
  simp only [cons_append,List.cons.injEq] at he
  obtain ⟨rfl,rfl⟩:=he
  obtain ⟨mf,gu,rfl,e1,e2⟩:=PU h2
  refine ⟨o::mf,gu,rfl,?_,e2⟩
  simp [lQ,h1,e1]
theorem acK {ls:List Nat} {c:fc} {K:Exit→(Nat→Value)→ae→Prop} {f:Nat→Value} {h:ae} (hi:jf P (xJ ls c) K f h):∃f',tY f' f∧jf P c K f' h:=by
 cases ls with
 | nil=>exact ⟨f,fun _=>.inl rfl,hi⟩
 | cons l ls=>exact ⟨_,Fm f (l::ls),hi⟩
theorem aDE {ops:Array Oper}:∀{gs:List (Option (Nat×Bool)×List jj)} {hs:Hints} {os:List Oper} {i:Nat} {K:Exit→(Nat→Value)→ae→Prop} {f:Nat→Value} {h:ae},
  (∀(k:Nat) (o:Oper),os[k]?=some o→ops[i+k]?=some o)→lQ P N ops os=some (nZ gs)→(∀g l,(g,l)∈gs→∀o∈l,leaves g o.dst=true)→jf P (re gs hs).1 K f h→
  ∃f' h',hX P N ops (range' i os.length) f h f' h'∧K .normal f' h':=by
 intro gs
 induction gs with
 | nil=>
  intro hs os i K f h qK hc _ hi
  cases os with
  | nil=>exact ⟨f,h,hX.nil,hi⟩
  | cons o os=>
   obtain ⟨x,xs,_,_,he⟩:=vR hc
   simp [nZ] at he
 | cons a gs ih=>
  obtain ⟨g,l⟩:=a
  intro hs os i K f h qK hc hl hi
  simp only [nZ] at hc
  obtain ⟨mf,gu,rfl,c0,c1⟩:=PU hc
  have Ju:∀(k:Nat) (o:Oper),mf[k]?=some o→ops[i+k]?=some o:=by
   intro k o hk
   refine qK k o ?_
   rw [getElem?_append_left (bL hk).1]
   exact hk
  have Rs:∀(k:Nat) (o:Oper),gu[k]?=some o→ops[i+mf.length+k]?=some o:=by
   intro k o hk
   rw [Nat.add_assoc]
   refine qK _ o ?_
   rw [List.getElem?_append_right (by omega)]
   simpa using hk
  have first:∀{K:(Nat→Value)→ae→Prop},tL P g l K f h→∃f' h',hX P N ops (range' i mf.length) f h f' h'∧K f' h':=by
   intro K hk
   exact JJ Ju c0 (aiz (fun o ho=>hl g l (by simp) o ho) hk)
  have both:∀{cT:Nat→Value} {h₁:ae} {f':Nat→Value} {h':ae},hX P N ops (range' i mf.length) f h cT h₁→hX P N ops (range' (i+mf.length) gu.length) cT h₁ f' h'→hX P N ops (range' i (mf++gu).length) f h f' h':=by
   intro cT h₁ f' h' a b
   rw [List.length_append,←List.range'_append_1]
   exact a.append b
  have rest:∀{hs:Hints} {cT:Nat→Value} {h₁:ae},jf P (re gs hs).1 K cT h₁→∃f' h',hX P N ops (range' (i+mf.length) gu.length) cT h₁ f' h'∧K .normal f' h':=
   fun hk=>ih Rs c1 (fun g' l' hm=>hl g' l' (by simp [hm])) hk
  cases gs with
  | nil=>
   have ED:jf P (.ops g l) K f h:=by
    cases hs <;> exact hi
   obtain ⟨f',h',r1,r2⟩:=first ED
   have h1:gu=[]:=by
    cases gu with
    | nil=>rfl
    | cons o os=>obtain ⟨x,xs,_,_,he⟩:=vR c1;simp [nZ] at he
   subst h1
   exact ⟨f',h',by simpa using r1,r2⟩
  | cons b gs=>
   cases hs with
   | nil=>
    obtain ⟨cT,h₁,r1,r2⟩:=first (K:=fun f h=>jf P (re (b::gs) []).1 K f h) hi
    obtain ⟨f',h',s1,s2⟩:=rest r2
    exact ⟨f',h',both r1 s1,s2⟩
   | cons h0 hs=>
    obtain ⟨cT,h₁,r1,r2⟩:=first (K:=fun f h=>jf P (xJ h0 (re (b::gs) hs).1) K f h) hi
    obtain ⟨Qr,hw,r3⟩:=acK r2
    obtain ⟨f',h',s1,s2⟩:=rest r3
    exact ⟨f',h',both r1 (s1.weaken hw),s2⟩
def qY (S:Option Nat) (P:Program) (c:Code) (Q:Exit→Act→World→Prop) (a:Act) (w:World):Prop:=
 ∀(b:Frame) (k:List Item) (cs:List Frame),b.roundOf=S→
  ∃e a' w',Q e a' w'∧ArrivesIn (Machine.fenced P (FR S)) P (lone (b.atR a (.code c:: .inLoop c::k)) cs w) b k cs e a' w'
theorem FR.room (S:Option Nat) (n:Nat):(FR S).room n:=fun _ h=>by cases h
theorem qY.wp {S:Option Nat} {c:Code} {Q:Exit→Act→World→Prop} {a:Act} {w:World} (h:qY S P c Q a w):(Code.loop c).wpIn (FR S) 0 P Q a w:=by
 intro b k cs mG hb hr
 obtain ⟨e,a',w',q,r⟩:=h b k cs mG
 exact ⟨e,a',w',q,.of_steps (.one (fenced_calm hb hr rfl) stepR_loop) r⟩
theorem qY.round {S:Option Nat} {c:Code} {Q:Exit→Act→World→Prop} {a:Act} {w:World} (h:c.wpIn (FR S) 0 P (Exit.then (qY S P c Q) Q) a w):qY S P c Q a w:=by
 intro b k cs mG
 have hb:(FR S).fn b.fn:=trivial
 have hr:(FR S).room (cs.length+1+0):=FR.room S _
 obtain ⟨e,zc,oL,hq,xV⟩:=h b (.inLoop c::k) cs mG hb hr
 cases e with
 | normal=>
  obtain ⟨awd,arf,LX,axB,awO⟩:=hq b k cs mG
  exact ⟨awd,arf,LX,axB,.of_steps (StepsIn.trans xV (.one (fenced_calm hb hr rfl) stepR_inLoop)) awO⟩
 | exit id=>exact ⟨_,zc,oL,hq,.pass (x:=.inLoop c) rfl (fun _ _=>.inl (by simp)) xV⟩
 | goto l=>exact ⟨_,zc,oL,hq,.pass (x:=.inLoop c) rfl (fun _ _=>.inl (by simp)) xV⟩
 | ret=>exact ⟨_,zc,oL,hq,.pass (x:=.inLoop c) rfl (fun _ _=>.inl (by simp)) xV⟩
 | panic ch=>exact ⟨_,zc,oL,hq,.pass (x:=.inLoop c) rfl (fun _ _=>.inl (by simp)) xV⟩
 | outgrown=>exact ⟨_,zc,oL,hq,.pass (x:=.inLoop c) rfl (fun _ _=>.inl (by simp)) xV⟩
theorem afW {l:List iZ} (h:l.all (fun o=>leaves o.guard o.dst)=true):∀g m,(g,m)∈uG l→∀o∈m,leaves g o.dst=true:=by
 intro g m hm o ho
 have rR:(⟨o.dst,o.op,g⟩:iZ)∈nZ (uG l):=by
  generalize uG l=gs at hm
  induction gs with
  | nil=>simp at hm
  | cons a gs ih=>
   obtain ⟨g',m'⟩:=a
   simp only [nZ,List.mem_append]
   rcases mem_cons.1 hm with he | hm
   ·cases he
    left
    simp only [qx,mem_map]
    exact ⟨o,ho,rfl⟩
   ·exact .inr (ih hm)
 rw [IP] at rR
 rw [all_eq_true] at h
 exact h _ rR
def qj (P:Program) (N:Nat) (out:Bool) (c:Code) (f:Nat→Value) (h:ae) (e:Exit) (f':Nat→Value) (h':ae):Prop:=
 ∀S,(out=true→S=none)→∀B ρ a w,ep P N B ρ f h a w→qY S P c (yS P N B ρ h w e f' h') a w
theorem qY.mono {S:Option Nat} {c:Code} {Q Q':Exit→Act→World→Prop} {a:Act} {w:World} (h:qY S P c Q a w) (hq:∀e a w,Q e a w→Q' e a w):qY S P c Q' a w:=
 fun b k cs mG=>let ⟨e,a',w',q,r⟩:=h b k cs mG;⟨e,a',w',hq _ _ _ q,r⟩
theorem yS.trans {B:Nat} {ρ nw:aI} {h h₁ h':ae} {w oL:World} {e:Exit} {f':Nat→Value} (T:Tr ρ h w nw h₁ oL):∀e' a' w',yS P N B nw h₁ oL e f' h' e' a' w'→yS P N B ρ h w e f' h' e' a' w':=by
 rintro e' a' w' ⟨rfl,av,R,T'⟩
 exact ⟨rfl,av,R,T.trans T'⟩
variable {out : Bool}
theorem qj.next {c:Code} {f cT f':Nat→Value} {h h₁ h':ae} {e:Exit} (a:gT P N out c f h .normal cT h₁) (b:qj P N out c cT h₁ e f' h'):qj P N out c f h e f' h':=by
 intro S hS B ρ ac w R
 refine qY.round (wpIn_mono (a S hS B ρ ac w R) ?_)
 rintro e' a' w' ⟨rfl,av,R',T⟩
 exact (b S hS B av a' w' R').mono (yS.trans T)
theorem qj.leave {c:Code} {f f':Nat→Value} {h h':ae} {e:Exit} (he:e≠ .normal) (a:gT P N out c f h e f' h'):qj P N out c f h e f' h':=by
 intro S hS B ρ ac w R
 refine qY.round (wpIn_mono (a S hS B ρ ac w R) ?_)
 rintro e' a' w' ⟨rfl,av,R',T⟩
 cases e' <;> first | exact absurd rfl he | exact ⟨rfl,av,R',T⟩
theorem qj.run {c:Code} {f f':Nat→Value} {h h':ae} {e:Exit} (a:qj P N out c f h e f' h'):gT P N out (.loop c) f h e f' h':=fun S hS B ρ ac w R=>(a S hS B ρ ac w R).wp
theorem gT.seq {x y:Code} {f cT f':Nat→Value} {h h₁ h':ae} {e:Exit} (a:gT P N out x f h .normal cT h₁) (b:gT P N out y cT h₁ e f' h'):gT P N out (.seq x y) f h e f' h':=by
 intro S hS B ρ ac w R
 refine wpIn_seq (wpIn_mono (a S hS B ρ ac w R) ?_)
 rintro e' a' w' ⟨rfl,av,R',T⟩
 exact wpIn_mono (b S hS B av a' w' R') (yS.trans T)
theorem gT.aEt {x y:Code} {f f':Nat→Value} {h h':ae} {e:Exit} (he:e≠ .normal) (a:gT P N out x f h e f' h'):gT P N out (.seq x y) f h e f' h':=by
 intro S hS B ρ ac w R
 refine wpIn_seq (wpIn_mono (a S hS B ρ ac w R) ?_)
 rintro e' a' w' ⟨rfl,av,R',T⟩
 cases e' <;> first | exact absurd rfl he | exact ⟨rfl,av,R',T⟩
theorem gT.block {id:Nat} {c:Code} {f f':Nat→Value} {h h':ae} {e:Exit} (a:gT P N out c f h e f' h'):gT P N out (.block id c) f h (match e with | .exit i=>if i=id then .normal else .exit i | e=>e) f' h':=by
 intro S hS B ρ ac w R
 refine wpIn_block (wpIn_mono (a S hS B ρ ac w R) ?_)
 rintro e' a' w' ⟨rfl,av,R',T⟩
 cases e' with
 | exit i=>
  simp only [Exit.inBlock]
  split
  ·exact ⟨rfl,av,R',T⟩
  ·exact ⟨rfl,av,R',T⟩
 | _=>exact ⟨rfl,av,R',T⟩
theorem gT.cond {c:Operand} {x y:Code} {t:Bool} {f f':Nat→Value} {h h':ae} {e:Exit} (hc:jy c=true) (ht:ev f c=.bool t) (a:gT P N out (if t then x else y) f h e f' h'):gT P N out (.cond c x y) f h e f' h':=by
 intro S hS B ρ ac w R
 have:=R.ev hc
 rw [ht] at this
 exact wpIn_cond this.zi (a S hS B ρ ac w R)
theorem gT.region {id:Nat} {ops:Array Oper} {f f':Nat→Value} {h h':ae} (a:hX P N ops (List.range ops.size) f h f' h'):gT P N out (.region id ops false) f h .normal f' h':=by
 intro S hS B ρ ac w R
 refine wpIn_region (a S B ρ ac w R _ ?_)
 intro av a' w' R' T
 exact ⟨rfl,av,R',T⟩
theorem qj.weaken {c:Code} {f cT f':Nat→Value} {h h':ae} {e:Exit} (hw:tY cT f) (hr:qj P N out c cT h e f' h'):qj P N out c f h e f' h':=
 fun S hS B ρ a w R=>hr S hS B ρ a w (R.weaken hw)
end
end
section
inductive yX (ops:Array Oper):List Nat→List Nat→Prop
 | nil {S:List Nat}:(∀i,i<ops.size→i∈S)→yX ops S []
 | cons {S:List Nat} {i:Nat} {o:Oper} {l:List Nat}:ops[i]?=some o→i∉S→(∀e∈fv o,e∈S)→yX ops (i::S) l→yX ops S (i::l)
theorem GX:∀{ops:List Oper} {i:Nat},zf ops i=true→∀(k:Nat) (o:Oper),ops[k]?=some o→∀e∈fv o,e<i+k
 | [],i,_,k,o,hk=>by simp at hk
 | x::ops,i,h,k,o,hk=>by
  simp only [zf,and_eq_true,all_eq_true,decide_eq_true_eq] at h
  cases k with
  | zero=>simp at hk;subst hk;exact h.1
  | succ k=>
   intro e he
   have:=GX h.2 k o (by simpa using hk) e he
   omega
def ready (ops:Array Oper) (iH:Array Bool) (i:Nat):Bool:=
 !iH.getD i true&&((ops[i]?).map (·.after.all fun e=> !Region.binds .any e||iH.getD e.on false)).getD false
theorem awE (ops:Array Oper) (fuel t:Nat) (iH:Array Bool) (acc:List Nat):
  Region.linearise.go .any ops (fuel+1) t iH acc=
   match ((List.range ops.size).filter (ready ops iH))[t%((List.range ops.size).filter (ready ops iH)).length]? with
   | some i=>Region.linearise.go .any ops fuel (t / ((List.range ops.size).filter (ready ops iH)).length) (iH.setIfInBounds i true) (i::acc)
   | none=>acc.reverse:=by
 rw [Region.linearise.go]
 rfl
theorem amq {ops:Array Oper} {iH:Array Bool} {S:List Nat} (hl:iH.size=ops.size) (hS:∀i,i<ops.size→(iH.getD i false=true↔i∈S)) (hb:∀(k:Nat) (o:Oper),ops[k]?=some o→∀e∈fv o,e<k)
  {i:Nat} (hi:i<ops.size):ready ops iH i=true↔i∉S∧∀o,ops[i]?=some o→∀e∈fv o,e∈S:=by
 have ho:ops[i]?=some ops[i]:=by simp [hi]
 have e1:iH.getD i true=iH.getD i false:=by simp [Array.getD,hl,hi]
 unfold ready
 rw [e1,ho]
 simp only [map_some,getD_some,and_eq_true,Bool.not_eq_true',Option.some.injEq,forall_eq']
 have h1:iH.getD i false=false↔i∉S:=by
  rw [←hS i hi]
  cases iH.getD i false <;> simp
 rw [h1]
 refine and_congr_right fun _=>?_
 rw [Array.all_eq_true']
 constructor
 ·intro h e he
  have aB:=hb i _ ho e he
  unfold fv at he
  simp only [List.mem_filterMap] at he
  obtain ⟨x,hx,yr⟩:=he
  split at yr
  ·rename_i B4
   simp at yr
   subst yr
   have:=h x (by simpa using hx)
   simp only [or_eq_true,Bool.not_eq_true',B4] at this
   exact (hS _ (by omega)).1 (by simpa using this)
  ·cases yr
 ·intro h x hx
  cases B4:Region.binds .any x with
  | false=>simp
  | true=>
   have hm:x.on∈fv ops[i]:=by
    unfold fv
    simp only [List.mem_filterMap]
    exact ⟨x,by simpa using hx,by simp [B4]⟩
   have aB:=hb i _ ho _ hm
   simp [(hS x.on (by omega)).2 (h _ hm)]
theorem Ke:∀{l m:List Nat},l.Nodup→l ⊆ m→l.length≤m.length
 | [],m,_,_=>by simp
 | x::l,m,hd,hs=>by
  have hx:x∈m:=hs (by simp)
  rw [nodup_cons] at hd
  have h1:l ⊆ m.erase x:=by
   intro y hy
   have bm:y≠x:=by rintro rfl;exact hd.1 hy
   exact (List.mem_erase_of_ne bm).2 (hs (by simp [hy]))
  have h2:=Ke hd.2 h1
  rw [List.length_erase_of_mem hx] at h2
  have:0<m.length:=List.length_pos_of_mem hx
  simp
  omega
theorem auZ {n:Nat} {S:List Nat} (hlen:S.length<n):∃i,i<n∧i∉S∧∀k,k<i→k∈S:=by
 have hex:∃i,i<n∧i∉S:=by
  apply byContradiction
  intro dB
  have fh:∀i,i<n→i∈S:=fun i hi=>byContradiction fun h=>dB ⟨i,hi,h⟩
  have rW:List.range n ⊆ S:=fun i hi=>fh i (mem_range.1 hi)
  have:=Ke (List.nodup_range (n:=n)) rW
  simp at this
  omega
 have key:∀m,(∃i,i<m∧i<n∧i∉S)→∃i,i<n∧i∉S∧∀k,k<i→k∈S:=by
  intro m
  induction m with
  | zero=>rintro ⟨i,h,_⟩;omega
  | succ m ih=>
   rintro ⟨i,h1,h2,h3⟩
   by_cases eD:∃i,i<m∧i<n∧i∉S
   ·exact ih eD
   ·have eO:i=m:=by
     by_cases e:i=m
     ·exact e
     ·exact absurd ⟨i,by omega,h2,h3⟩ eD
    subst eO
    refine ⟨i,h2,h3,fun k hk=>byContradiction fun Ew=>eD ⟨k,hk,by omega,Ew⟩⟩
 obtain ⟨i,h1,h2⟩:=hex
 exact key n ⟨i,h1,h1,h2⟩
theorem adD {ops:Array Oper} (hb:∀(k:Nat) (o:Oper),ops[k]?=some o→∀e∈fv o,e<k):∀(fuel t:Nat) (iH:Array Bool) (acc:List Nat),iH.size=ops.size→
  (∀i,i<ops.size→(iH.getD i false=true↔i∈acc))→acc.Nodup→(∀i∈acc,i<ops.size)→acc.length+fuel=ops.size→
  ∃l,Region.linearise.go .any ops fuel t iH acc=acc.reverse++l∧yX ops acc l
 | 0,t,iH,acc,hl,hS,hd,aB,hf=>by
  refine ⟨[],by simp [Region.linearise.go],.nil ?_⟩
  intro i hi
  apply byContradiction
  intro h
  have rW:(i::acc) ⊆ List.range ops.size:=by
   intro x hx
   rcases mem_cons.1 hx with rfl | hx
   ·simpa using hi
   ·simpa using aB x hx
  have:=Ke (nodup_cons.2 ⟨h,hd⟩) rW
  simp at this
  omega
 | fuel+1,t,iH,acc,hl,hS,hd,aB,hf=>by
  rw [awE]
  obtain ⟨i0,Cd,aw6,aw5⟩:=auZ (n:=ops.size) (S:=acc) (by omega)
  have qN:ready ops iH i0=true:=(amq hl hS hb Cd).2 ⟨aw6,fun o ho e he=>aw5 e (hb i0 o ho e he)⟩
  have iF:0<((List.range ops.size).filter (ready ops iH)).length:=List.length_pos_of_mem (mem_filter.2 ⟨mem_range.2 Cd,qN⟩)
  have bQ:∃i,((List.range ops.size).filter (ready ops iH))[t%((List.range ops.size).filter (ready ops iH)).length]?=some i:=⟨_,getElem?_eq_getElem (Nat.mod_lt _ iF)⟩
  obtain ⟨i,hi⟩:=bQ
  rw [hi]
  have rR:=mem_of_getElem? hi
  simp only [mem_filter,mem_range] at rR
  obtain ⟨eC,axK⟩:=rR
  obtain ⟨wu,zR⟩:=(amq hl hS hb eC).1 axK
  obtain ⟨l,h1,h2⟩:=adD hb fuel (t / ((List.range ops.size).filter (ready ops iH)).length) (iH.setIfInBounds i true) (i::acc) (by simpa using hl) (by
   intro k hk
   by_cases e:k=i
   ·subst e;simp [Array.getD,hl,hk]
   ·have:(iH.setIfInBounds i true).getD k false=iH.getD k false:=by
     simp only [Array.getD_eq_getD_getElem?,Array.getElem?_setIfInBounds]
     rw [if_neg (Ne.symm e)]
    rw [this,hS k hk]
    simp [e]) (nodup_cons.2 ⟨wu,hd⟩) (by
   intro k hk
   rcases mem_cons.1 hk with rfl | hk
   ·exact eC
   ·exact aB k hk) (by simp;omega)
  refine ⟨i::l,by simp only [h1];simp,?_⟩
  exact .cons (o:=ops[i]) (by simp [eC]) wu (zR _ (by simp [eC])) h2
theorem afZ {ops:Array Oper} (hb:zf ops.toList 0=true) (t:Nat):yX ops [] (Region.linearise .any ops t):=by
 have kQ:∀(k:Nat) (o:Oper),ops[k]?=some o→∀e∈fv o,e<k:=by
  intro k o hk e he
  have:=GX hb k o (by simpa using hk) e he
  omega
 obtain ⟨l,h1,h2⟩:=adD kQ ops.size t (replicate ops.size false) [] (by simp) (by intro i hi;simp [Array.getD,hi]) .nil (by simp) (by simp)
 have:Region.linearise .any ops t=l:=by
  unfold Region.linearise
  rw [h1]
  simp
 rw [this]
 exact h2
end
section
theorem Qb {f f':Nat→Value}:∀{l:List Operand},(∀t∈tmpsOf l,f t=f' t)→∀x∈l,ev f x=ev f' x
 | [],_,x,hx=>by simp at hx
 | y::l,h,x,hx=>by
  have h':∀t∈tmpsOf l,f t=f' t:=by
   intro t ht
   apply h
   cases y <;> simp [tmpsOf,ht]
  rcases mem_cons.1 hx with rfl | hx
  ·cases x with
   | tmp t=>exact h t (by simp [tmpsOf])
   | _=>rfl
  ·exact Qb h' x hx
theorem Fa {g g':Operand→Value} {xs:List Operand} (h:∀x∈xs,g x=g' x):xs.map g=xs.map g':=List.map_congr_left h
theorem Kn {g g':Operand→Value} {x:Option Operand} (h:∀y∈x.toList,g y=g' y):x.map g=x.map g':=by
 cases x with
 | none=>rfl
 | some y=>simp [h y (by simp)]
theorem KU {g g':Operand→Value} {ps:List (Nat×Nat×Operand)} (h:∀x∈ps.map (·.2.2),g x=g' x):(ps.map fun (o,s,x)=>(o,s,g x))=ps.map fun (o,s,x)=>(o,s,g' x):=by
 apply List.map_congr_left
 rintro ⟨o,s,x⟩ hx
 simp [h x (by simp;exact ⟨o,s,hx⟩)]
theorem ayp {o:ql} {g g':Operand→Value} (h:∀x∈o.iA,g x=g' x):jx o g=jx o g':=by
 cases o with
 | Fc mx xs=>
  simp only [jx]
  rw [Fa (xs:=xs) h]
 | Lq x lo hi=>
  simp only [jx,ql.iA] at*
  rw [h x (by simp),Kn (x:=lo) (fun y hy=>h y (by simp at hy⊢;exact .inr (.inl hy))),Kn (x:=hi) (fun y hy=>h y (by simp at hy⊢;exact .inr (.inr hy)))]
 | Ls e s x lo hi=>
  simp only [jx,ql.iA] at*
  rw [h x (by simp),Kn (x:=lo) (fun y hy=>h y (by simp at hy⊢;exact .inr (.inl hy))),Kn (x:=hi) (fun y hy=>h y (by simp at hy⊢;exact .inr (.inr hy)))]
 | fn f first captured=>
  simp only [jx,ql.iA] at*
  rw [Fa (xs:=first) (fun x hx=>h x (by simp [hx])),Fa (xs:=captured) (fun x hx=>h x (by simp [hx]))]
 | build zero parts=>
  simp only [jx]
  rw [KU (ps:=parts) h]
 | _=>simp [ql.iA] at h;simp [jx,h]
theorem aym {o:pC} {g g':Operand→Value} (h:∀x∈o.iA,g x=g' x) (H:ae):fD o g H=fD o g' H:=by
 cases o <;> simp [pC.iA] at h <;> simp [fD,h]
theorem ayj {o:pB} {g g':Operand→Value} (h:∀x∈o.iA,g x=g' x) (H:ae):fY o g H=fY o g' H:=by
 cases o with
 | nM e n zs ps=>
  simp only [fY]
  rw [KU (ps:=ps) h]
 | fl a=>
  cases a with
  | nM e n zs ps=>
   simp only [fY]
   rw [KU (ps:=ps) h]
  | _=>simp [pB.iA,mT.iA] at h;simp [fY,h]
 | _=>simp [pB.iA] at h;simp [fY,h]
theorem Lx {P:Program} {io:hO} {f f':Nat→Value} {h:ae} {K:Value→ae→Prop} (hf:∀t∈tmpsOf io.iA,f t=f' t):dc P io f h K↔dc P io f' h K:=by
 have he:=Qb hf
 cases io with
 | p o=>simp only [dc];rw [ayp he]
 | l o=>simp only [dc];rw [aym he]
 | e o=>simp only [dc];rw [ayj he]
 | call g args=>
  simp only [dc]
  rw [Fa (xs:=args) he]
 | lh x args=>simp only [dc];rw [he x (by simp [hO.iA]),Fa (xs:=args) (fun y hy=>he y (by simp [hO.iA,hy]))]
structure Trace (P:Program) (l:List cS) (j0:Nat) (F:Nat→Nat→Value) (H:Nat→ae) (V:Nat→Value):Prop where
 yE:∀k o,l[k]?=some o→F (j0+k+1)=dK (F (j0+k)) o.op.dst (V (j0+k))
 QD:∀k o,l[k]?=some o→sU o.op.guard (F (j0+k))
 yes:∀k o,l[k]?=some o→iW o.op.guard (F (j0+k))=true→dc P o.op.op (F (j0+k)) (H (j0+k)) fun v h'=>v=V (j0+k)∧h'=H (j0+k+1)
 no:∀k o,l[k]?=some o→iW o.op.guard (F (j0+k))=false→V (j0+k)=undef∧H (j0+k+1)=H (j0+k)
 UU:∀e oe k ok lo,l[e]?=some oe→oe.op.op.dJ=true→l[k]?=some ok→ok.op.op=.l lo→iW ok.op.guard (F (j0+k))=true→e<k→ok.pre.testBit (j0+e)=false→
  fD lo (ev (F (j0+k))) (H (j0+e))=some (V (j0+k))
 Qq:∀k ok lo e oe,l[k]?=some ok→ok.op.op=.l lo→iW ok.op.guard (F (j0+k))=true→l[e]?=some oe→oe.op.op.dJ=true→k<e→oe.pre.testBit (j0+k)=false→
  fD lo (ev (F (j0+k))) (H (j0+e+1))=some (V (j0+k))
 flo:∀k ok a,l[k]?=some ok→ok.op.op=.e (.fl a)→iW ok.op.guard (F (j0+k))=true→∃u,er (H (j0+k+1)) (V (j0+k))=some u∧
  ∀e oe,l[e]?=some oe→oe.op.op.dJ=true→k<e→oe.pre.testBit (j0+k)=false→er (H (j0+e+1)) (V (j0+k))=some u
theorem PN {pre:Nat} {lo:pC} {f:Nat→Value} {v:Value}:∀{hs:List (Nat×ae)},xE pre lo f v hs→∀e H,(e,H)∈hs→pre.testBit e=false→fD lo (ev f) H=some v
 | [],_,e,H,hm,_=>by simp at hm
 | (e',H')::r,h,e,H,hm,hp=>by
  simp only [xE] at h
  rcases mem_cons.1 hm with hq | hm
  ·cases hq
   rw [if_neg (by rw [hp];simp)] at h
   exact h.1
  ·split at h
   ·exact PN h e H hm hp
   ·exact PN h.2 e H hm hp
theorem DQ {pre:Nat} {H:ae}:∀{ls:eK},lP pre H ls→∀j lo f v,(j,lo,f,v)∈ls→pre.testBit j=false→fD lo (ev f) H=some v
 | [],_,j,lo,f,v,hm,_=>by simp at hm
 | (j',pf,f',v')::r,h,j,lo,f,v,hm,hp=>by
  simp only [lP] at h
  rcases mem_cons.1 hm with hq | hm
  ·cases hq
   rw [if_neg (by rw [hp];simp)] at h
   exact h.1
  ·split at h
   ·exact DQ h j lo f v hm hp
   ·exact DQ h.2 j lo f v hm hp
def Dw (P:Program) (l:List cS) (j:Nat) (aN:List (Nat×ae)) (aG:eK) (K:(Nat→Value)→ae→Prop) (f:Nat→Value) (h:ae):Prop:=
 ∃F H V,F j=f∧H j=h∧K (F (j+l.length)) (H (j+l.length))∧Trace P l j F H V∧
  (∀e Hh,(e,Hh)∈aN→∀k ok lo,l[k]?=some ok→ok.op.op=.l lo→iW ok.op.guard (F (j+k))=true→ok.pre.testBit e=false→fD lo (ev (F (j+k))) Hh=some (V (j+k)))∧
  (∀i lo ff v,(i,lo,ff,v)∈aG→∀e oe,l[e]?=some oe→oe.op.op.dJ=true→oe.pre.testBit i=false→fD lo (ev ff) (H (j+e+1))=some v)
theorem Sh {P:Program}:∀{l:List cS} {j:Nat} {aN:List (Nat×ae)} {aG:eK} {K:(Nat→Value)→ae→Prop} {f:Nat→Value} {h:ae},lF P l j aN aG K f h→Dw P l j aN aG K f h
 | [],j,aN,aG,K,f,h,hi=>
  ⟨fun _=>f,fun _=>h,fun _=>undef,rfl,rfl,hi,⟨fun k o hk=>by simp at hk,fun k o hk=>by simp at hk,fun k o hk=>by simp at hk,fun k o hk=>by simp at hk,fun e oe k ok lo hk=>by simp at hk,fun k ok lo e oe hk=>by simp at hk,fun k ok a hk=>by simp at hk⟩,
   fun e Hh hm k ok lo hk=>by simp at hk,fun i lo ff v hm e oe hk=>by simp at hk⟩
 | o::os,j,aN,aG,K,f,h,hi=>by
  -- gv rest,and how gv first step is laid ahead of it
  have key:∀(v:Value) (h':ae) (pM:List (Nat×ae)) (pg:eK),sU o.op.guard f→lF P os (j+1) pM pg K (dK f o.op.dst v) h'→
    (∀p∈aN,p∈pM)→(∀p∈aG,p∈pg)→(o.op.op.dJ=true→(j,h)∈pM)→(∀lo,o.op.op=.l lo→iW o.op.guard f=true→(j,lo,f,v)∈pg)→
    (iW o.op.guard f=true→dc P o.op.op f h fun u g=>u=v∧g=h')→(iW o.op.guard f=false→v=undef∧h'=h)→
    (∀lo,o.op.op=.l lo→iW o.op.guard f=true→∀e Hh,(e,Hh)∈aN→o.pre.testBit e=false→fD lo (ev f) Hh=some v)→
    (o.op.op.dJ=true→∀i lo ff u,(i,lo,ff,u)∈aG→o.pre.testBit i=false→fD lo (ev ff) h'=some u)→
    (∀a,o.op.op=.e (.fl a)→iW o.op.guard f=true→∃u,er h' v=some u∧(j,.obj (.const v),f,u)∈pg)→
    Dw P (o::os) j aN aG K f h:=by
   intro v h' pM pg kS RF hh hl hE hL hy hn hp hf tc
   obtain ⟨F,H,V,f1,f2,f3,T,fp,ff⟩:=Sh RF
   have Kp:∀{α:Type} (x:α) (G:Nat→α),∃G2:Nat→α,G2 j=x∧(∀k,G2 (j+k+1)=G (j+1+k))∧∀k,G2 (j+(k+1))=G (j+1+k):=by
    intro α x G
    refine ⟨fun k=>if k=j then x else G k,by simp,fun k=>?_,fun k=>?_⟩
    ·show (if j+k+1=j then x else G (j+k+1))=_
     rw [if_neg (by omega)]
     congr 1
     omega
    ·show (if j+(k+1)=j then x else G (j+(k+1)))=_
     rw [if_neg (by omega)]
     congr 1
     omega
   obtain ⟨F2,vV,eF1,eF⟩:=Kp f F
   obtain ⟨H2,IB,xP,eH⟩:=Kp h H
   obtain ⟨V2,zu,eV1,eV⟩:=Kp v V
   have avS:F2 (j+1)=F (j+1):=eF1 0
   have IC:H2 (j+1)=H (j+1):=xP 0
   refine ⟨F2,H2,V2,vV,IB,?_,?_,?_,?_⟩
   ·rw [length_cons,eF,eH]
    exact f3
   ·constructor
    ·intro k ok hk
     cases k with
     | zero=>
      simp at hk;subst hk
      simp only [add_zero]
      rw [avS,vV,zu]
      exact f1
     | succ k=>
      have:=T.yE k ok (by simpa using hk)
      rw [eF1,eF,eV,show j+1+(k+1)=j+1+k+1 by omega]
      exact this
    ·intro k ok hk
     cases k with
     | zero=>
      simp at hk;subst hk
      simp only [add_zero]
      rw [vV]
      exact kS
     | succ k=>
      rw [eF]
      exact T.QD k ok (by simpa using hk)
    ·intro k ok hk hw
     cases k with
     | zero=>
      simp at hk;subst hk
      simp only [add_zero] at hw⊢
      rw [vV] at hw
      rw [IC,vV,IB,zu,f2]
      exact hy hw
     | succ k=>
      rw [eF] at hw
      rw [xP,eF,eH,eV,show j+1+(k+1)=j+1+k+1 by omega]
      exact T.yes k ok (by simpa using hk) hw
    ·intro k ok hk hw
     cases k with
     | zero=>
      simp at hk;subst hk
      simp only [add_zero] at hw⊢
      rw [vV] at hw
      rw [IC,IB,zu,f2]
      exact hn hw
     | succ k=>
      rw [eF] at hw
      rw [xP,eH,eV,show j+1+(k+1)=j+1+k+1 by omega]
      exact T.no k ok (by simpa using hk) hw
    ·intro e oe k ok lo he fN hk eD hw aB ik
     cases k with
     | zero=>omega
     | succ k=>
      rw [eF] at hw⊢
      rw [eV]
      cases e with
      | zero=>
       simp at he;subst he
       simp only [add_zero] at ik⊢
       rw [IB]
       exact fp j h (hE fN) k ok lo (by simpa using hk) eD hw ik
      | succ e=>
       rw [eH]
       rw [show j+(e+1)=j+1+e by omega] at ik
       exact T.UU e oe k ok lo (by simpa using he) fN (by simpa using hk) eD hw (by omega) ik
    ·intro k ok lo e oe hk eD hw he fN aB ik
     cases e with
     | zero=>omega
     | succ e=>
      rw [xP,show j+1+(e+1)=j+1+e+1 by omega]
      cases k with
      | zero=>
       simp at hk;subst hk
       simp only [add_zero] at hw ik⊢
       rw [vV] at hw⊢
       rw [zu]
       exact ff j lo f v (hL lo eD hw) e oe (by simpa using he) fN ik
      | succ k=>
       rw [eF] at hw⊢
       rw [eV]
       rw [show j+(k+1)=j+1+k by omega] at ik
       exact T.Qq k ok lo e oe (by simpa using hk) eD hw (by simpa using he) fN (by omega) ik
    ·intro k ok a hk cY hw
     cases k with
     | zero=>
      simp at hk;subst hk
      simp only [add_zero] at hw⊢
      rw [vV] at hw
      obtain ⟨u,u1,u2⟩:=tc a cY hw
      refine ⟨u,by rw [IC,zu,f2];exact u1,?_⟩
      intro e oe he fN aB ik
      cases e with
      | zero=>omega
      | succ e=>
       rw [xP,show j+1+(e+1)=j+1+e+1 by omega,zu]
       exact ff j (.obj (.const v)) f u u2 e oe (by simpa using he) fN ik
     | succ k=>
      rw [eF] at hw
      obtain ⟨u,u1,u2⟩:=T.flo k ok a (by simpa using hk) cY hw
      refine ⟨u,by rw [xP,eV,show j+1+(k+1)=j+1+k+1 by omega];exact u1,?_⟩
      intro e oe he fN aB ik
      cases e with
      | zero=>omega
      | succ e=>
       rw [xP,show j+1+(e+1)=j+1+e+1 by omega,eV]
       rw [show j+(k+1)=j+1+k by omega] at ik
       exact u2 e oe (by simpa using he) fN (by omega) ik
   ·intro e Hh hm k ok lo hk eD hw ik
    cases k with
    | zero=>
     simp at hk;subst hk
     simp only [add_zero] at hw⊢
     rw [vV] at hw⊢
     rw [zu]
     exact hp lo eD hw e Hh hm ik
    | succ k=>
     rw [eF] at hw⊢
     rw [eV]
     exact fp e Hh (hh _ hm) k ok lo (by simpa using hk) eD hw ik
   ·intro i lo ff' u hm e oe he fN ik
    cases e with
    | zero=>
     simp at he;subst he
     simp only [add_zero]
     rw [IC,f2]
     exact hf fN i lo ff' u hm ik
    | succ e=>
     rw [xP,show j+1+(e+1)=j+1+e+1 by omega]
     exact ff i lo ff' u (hl _ hm) e oe (by simpa using he) fN ik
  have go:sU o.op.guard f→iW o.op.guard f=true→lC P o.op.op o.pre j aN aG f h (fun aN aG v h'=>lF P os (j+1) aN aG K (dK f o.op.dst v) h')→Dw P (o::os) j aN aG K f h:=fun kS hw hd=>by
   have P6:o.op.op.dJ=true→(∀a,o.op.op≠ .e (.fl a))→dc P o.op.op f h (fun v h'=>lP o.pre h' aG∧lF P os (j+1) (aN++[(j,h)]) aG K (dK f o.op.dst v) h')→Dw P (o::os) j aN aG K f h:=fun hE rS hs=>by
    have Ab:∀lo,o.op.op≠ .l lo:=by intro lo e;rw [e] at hE;cases hE
    have ex:∃v h',dc P o.op.op f h (fun u g=>u=v∧g=h')∧lP o.pre h' aG∧lF P os (j+1) (aN++[(j,h)]) aG K (dK f o.op.dst v) h':=by
     generalize o.op.op=io at hs⊢
     cases io with
     | p po=>
      simp only [dc,fE] at hs⊢
      split at hs
      ·exact ⟨_,_,⟨rfl,rfl⟩,hs⟩
      ·exact hs.elim
     | l lo=>
      simp only [dc,fE] at hs⊢
      split at hs
      ·exact ⟨_,_,⟨rfl,rfl⟩,hs⟩
      ·exact hs.elim
     | e eo=>
      simp only [dc,nO] at hs⊢
      split at hs
      ·exact ⟨_,_,⟨rfl,rfl⟩,hs⟩
      ·exact hs.elim
     | call g args=>
      obtain ⟨v,h',hc,hk⟩:=hs
      exact ⟨v,h',⟨v,h',hc,rfl,rfl⟩,hk⟩
     | lh x args=>
      simp only [dc,uu] at hs⊢
      split at hs
      ·obtain ⟨m8,v,h',hc,hk⟩:=hs
       exact ⟨v,h',⟨m8,v,h',hc,rfl,rfl⟩,hk⟩
      ·obtain ⟨m8,v,h',hc,hk⟩:=hs
       exact ⟨v,h',⟨m8,v,h',hc,rfl,rfl⟩,hk⟩
      ·exact hs.elim
    obtain ⟨v,h',s1,s2,s3⟩:=ex
    exact key v h' _ _ kS s3 (fun p hp=>by simp [hp]) (fun p hp=>hp) (fun _=>by simp) (fun lo e=>absurd e (Ab lo)) (fun _=>s1) (fun hf=>by rw [hw] at hf;cases hf) (fun lo e=>absurd e (Ab lo))
     (fun _ i lo ff u hm ik=>DQ s2 i lo ff u hm ik) (fun a e=>absurd e (rS a))
   cases cY:o.op.op with
   | p po=>
    rw [cY] at hd
    simp only [lC,fE] at hd
    split at hd
    ·rename_i v hv
     exact key v h _ _ kS hd (fun p hp=>hp) (fun p hp=>hp) (fun hE=>by rw [cY] at hE;cases hE) (fun lo e=>by rw [cY] at e;cases e) (fun _=>by rw [cY];simp [dc,fE,hv]) (fun hf=>by rw [hw] at hf;cases hf)
      (fun lo e=>by rw [cY] at e;cases e) (fun hE=>by rw [cY] at hE;cases hE) (fun a e=>by rw [cY] at e;cases e)
    ·exact hd.elim
   | l lo=>
    rw [cY] at hd
    simp only [lC,fE] at hd
    split at hd
    ·rename_i v hv
     exact key v h _ _ kS hd.2 (fun p hp=>hp) (fun p hp=>by simp [hp]) (fun hE=>by rw [cY] at hE;cases hE) (fun pf e _=>by rw [cY] at e;cases e;simp) (fun _=>by rw [cY];simp [dc,fE,hv]) (fun hf=>by rw [hw] at hf;cases hf)
      (fun pf e _ e' Hh hm ik=>by rw [cY] at e;cases e;exact PN hd.1 e' Hh hm ik) (fun hE=>by rw [cY] at hE;cases hE) (fun a e=>by rw [cY] at e;cases e)
    ·exact hd.elim
   | e eo=>
    cases eo with
    | fl a=>
     rw [cY] at hd
     simp only [lC,nO] at hd
     split at hd
     ·rename_i v h' hv
      simp only [fE] at hd
      split at hd
      ·rename_i u hu
       exact key v h' _ _ kS hd.2 (fun p hp=>by simp [hp]) (fun p hp=>by simp [hp]) (fun _=>by simp) (fun lo e=>by rw [cY] at e;cases e) (fun _=>by rw [cY];simp [dc,nO,hv]) (fun hf=>by rw [hw] at hf;cases hf)
        (fun lo e=>by rw [cY] at e;cases e) (fun _ i lo ff u hm ik=>DQ hd.1 i lo ff u hm ik) (fun a' _ _=>⟨u,hu,by simp⟩)
      ·exact hd.elim
     ·exact hd.elim
    | _=>exact P6 (by rw [cY];rfl) (fun a e=>by rw [cY] at e;cases e) (by rw [cY] at hd⊢;exact hd)
   | call g args=>exact P6 (by rw [cY];rfl) (fun a e=>by rw [cY] at e;cases e) (by rw [cY] at hd⊢;exact hd)
   | lh x args=>exact P6 (by rw [cY];rfl) (fun a e=>by rw [cY] at e;cases e) (by rw [cY] at hd⊢;exact hd)
  have skip:sU o.op.guard f→iW o.op.guard f=false→xO o.op.op o.pre j aN aG h (fun aN aG v h'=>lF P os (j+1) aN aG K (dK f o.op.dst v) h')→Dw P (o::os) j aN aG K f h:=fun kS hw hd=>by
   unfold xO at hd
   split at hd
   ·rename_i hE
    exact key undef h _ _ kS hd (fun p hp=>hp) (fun p hp=>hp) (fun fN=>by rw [hE] at fN;cases fN) (fun lo _ hf=>by rw [hw] at hf;cases hf) (fun hf=>by rw [hw] at hf;cases hf) (fun _=>⟨rfl,rfl⟩)
     (fun lo _ hf=>by rw [hw] at hf;cases hf) (fun fN=>by rw [hE] at fN;cases fN) (fun a _ hf=>by rw [hw] at hf;cases hf)
   ·rename_i hE
    exact key undef h _ _ kS hd.2 (fun p hp=>by simp [hp]) (fun p hp=>hp) (fun _=>by simp) (fun lo _ hf=>by rw [hw] at hf;cases hf) (fun hf=>by rw [hw] at hf;cases hf) (fun _=>⟨rfl,rfl⟩)
     (fun lo _ hf=>by rw [hw] at hf;cases hf) (fun _ i lo ff u hm ik=>DQ hd.1 i lo ff u hm ik) (fun a _ hf=>by rw [hw] at hf;cases hf)
  simp only [lF] at hi
  split at hi
  ·rename_i kT
   exact go (by rw [kT];trivial) (by rw [kT];rfl) hi
  ·rename_i s b kT
   obtain ⟨e1,e2⟩:=IX hi
   rcases e2 with ⟨e2,e3⟩ | ⟨e2,e3⟩
   ·exact go (by rw [kT];exact e1) (by rw [kT];exact e2) e3
   ·exact skip (by rw [kT];exact e1) (by rw [kT];exact e2) e3
def uz (g:Option (Nat×Bool)) (l:List km):List cS:=l.map fun o=>⟨⟨o.dst,o.op,g⟩,o.pre⟩
def uA:List (Option (Nat×Bool)×List km)→List cS
 | []=>[]
 | (g,l)::gs=>uz g l++uA gs
theorem It:∀os:List cS,uA (xN os)=os
 | []=>rfl
 | o::os=>by
  have ih:=It os
  simp only [xN]
  cases hg:xN os with
  | nil=>
   rw [hg] at ih
   simp only [uA] at ih
   subst ih
   simp [uA,uz]
  | cons a gs=>
   obtain ⟨g,l⟩:=a
   rw [hg] at ih
   simp only
   split
   ·rename_i he
    simp only [uA,uz,map_cons,cons_append] at ih⊢
    rw [ih,←he]
   ·simp only [uA,uz,map_cons,List.map_nil,cons_append,List.nil_append] at ih⊢
    rw [ih]
theorem acX {l:List cS} (h:l.all (fun o=>leaves o.op.guard o.op.dst)=true):∀g m,(g,m)∈xN l→∀o∈m,leaves g o.dst=true:=by
 intro g m hm o ho
 have rR:(⟨⟨o.dst,o.op,g⟩,o.pre⟩:cS)∈uA (xN l):=by
  generalize xN l=gs at hm
  induction gs with
  | nil=>simp at hm
  | cons a gs ih=>
   obtain ⟨g',m'⟩:=a
   simp only [uA,List.mem_append]
   rcases mem_cons.1 hm with he | hm
   ·cases he
    left
    simp only [uz,mem_map]
    exact ⟨o,ho,rfl⟩
   ·exact .inr (ih hm)
 rw [It] at rR
 rw [all_eq_true] at h
 exact h _ rR
theorem ac2 {P:Program} {io:hO} {pre j:Nat} {aN:List (Nat×ae)} {aG:eK} {f:Nat→Value} {h:ae} {K K':List (Nat×ae)→eK→Value→ae→Prop} (hm:∀a b v h,K a b v h→K' a b v h)
  (hs:lC P io pre j aN aG f h K):lC P io pre j aN aG f h K':=by
 cases io with
 | p po=>simp only [lC,fE] at hs⊢;split at hs <;> first | exact hm _ _ _ _ hs | exact hs.elim
 | l lo=>simp only [lC,fE] at hs⊢;split at hs <;> first | exact ⟨hs.1,hm _ _ _ _ hs.2⟩ | exact hs.elim
 | e eo=>
  cases eo with
  | fl a=>
   simp only [lC,nO,fE] at hs⊢
   split at hs
   ·split at hs <;> first | exact ⟨hs.1,hm _ _ _ _ hs.2⟩ | exact hs.elim
   ·exact hs.elim
  | _=>simp only [lC,nO] at hs⊢;split at hs <;> first | exact ⟨hs.1,hm _ _ _ _ hs.2⟩ | exact hs.elim
 | call g args=>exact sj.mono hs fun v h hk=>⟨hk.1,hm _ _ _ _ hk.2⟩
 | lh x args=>simp only [lC,uu] at hs⊢;split at hs <;> first | exact ⟨hs.1,hs.2.mono fun v h hk=>⟨hk.1,hm _ _ _ _ hk.2⟩⟩ | exact hs.elim
theorem ac1 {io:hO} {pre j:Nat} {aN:List (Nat×ae)} {aG:eK} {h:ae} {K K':List (Nat×ae)→eK→Value→ae→Prop} (hm:∀a b v h,K a b v h→K' a b v h)
  (hs:xO io pre j aN aG h K):xO io pre j aN aG h K':=by
 unfold xO at hs⊢
 split at hs
 ·exact hm _ _ _ _ hs
 ·exact ⟨hs.1,hm _ _ _ _ hs.2⟩
theorem V8 {f:Nat→Value} {d:Option Nat} {s:Nat} (hd:d≠some s) (v:Value):dK f d v s=f s:=by
 cases ho:d with
 | none=>rfl
 | some x=>
  have:s≠x:=by rintro rfl;exact hd ho
  simp [dK,tV,this]
theorem ady {P:Program} {g:Option (Nat×Bool)} {r:List cS} {K:(Nat→Value)→ae→Prop}:∀{l:List km} {j:Nat} {aN:List (Nat×ae)} {aG:eK} {f:Nat→Value} {h:ae},(∀o∈l,leaves g o.dst=true)→
  (∀s b,g=some (s,b)→wK (f s)=false∧qV (f s) b=true)→
  oU P l j aN aG (fun aN aG f h=>lF P r (j+l.length) aN aG K f h) f h→lF P (uz g l++r) j aN aG K f h:=by
 intro l
 induction l with
 | nil=>intro j aN aG f h _ _ hk;exact hk
 | cons o l ih=>
  intro j aN aG f h hl hg hk
  simp only [oU] at hk
  simp only [uz,map_cons,cons_append,lF]
  have step:lC P o.op o.pre j aN aG f h fun aN aG v h'=>lF P (uz g l++r) (j+1) aN aG K (dK f o.dst v) h':=by
   refine ac2 (fun a b v h' cW=>?_) hk
   refine ih (fun o' dN=>hl o' (by simp [dN])) ?_ ?_
   ·intro s bb hs
    have hd:o.dst≠some s:=by have:=hl o (by simp);rw [hs] at this;simpa [leaves] using this
    rw [V8 hd]
    exact hg s bb hs
   ·rw [length_cons] at cW
    rw [show j+1+l.length=j+(l.length+1) by omega]
    exact cW
  cases kT:g with
  | none=>rw [kT] at step;exact step
  | some sb=>
   obtain ⟨s,b⟩:=sb
   obtain ⟨e1,e2⟩:=hg s b kT
   rw [kT] at step
   exact QH e1 (fun _=>step) (fun h=>by rw [e2] at h;cases h)
theorem awz {P:Program} {s:Nat} {b:Bool} {r:List cS} {K:(Nat→Value)→ae→Prop}:∀{l:List km} {j:Nat} {aN:List (Nat×ae)} {aG:eK} {f:Nat→Value} {h:ae},(∀o∈l,leaves (some (s,b)) o.dst=true)→
  wK (f s)=false→qV (f s) b=false→
  vZ l j aN aG (fun aN aG f h=>lF P r (j+l.length) aN aG K f h) f h→lF P (uz (some (s,b)) l++r) j aN aG K f h:=by
 intro l
 induction l with
 | nil=>intro j aN aG f h _ _ _ hk;exact hk
 | cons o l ih=>
  intro j aN aG f h hl e1 e2 hk
  simp only [vZ] at hk
  simp only [uz,map_cons,cons_append,lF]
  refine QH e1 (fun h=>by rw [e2] at h;cases h) (fun _=>?_)
  refine ac1 (fun a c v h' cW=>?_) hk
  have hd:o.dst≠some s:=by have:=hl o (by simp);simpa [leaves] using this
  refine ih (fun o' dN=>hl o' (by simp [dN])) (by rw [V8 hd];exact e1) (by rw [V8 hd];exact e2) ?_
  rw [length_cons] at cW
  rw [show j+1+l.length=j+(l.length+1) by omega]
  exact cW
theorem Qw {P:Program} {K K':List (Nat×ae)→eK→(Nat→Value)→ae→Prop} (hm:∀a b f h,K a b f h→K' a b f h):∀{l:List km} {j:Nat} {aN:List (Nat×ae)} {aG:eK} {f:Nat→Value} {h:ae},
  oU P l j aN aG K f h→oU P l j aN aG K' f h
 | [],_,_,_,_,_,hk=>hm _ _ _ _ hk
 | _::_,_,_,_,_,_,hk=>ac2 (fun _ _ _ _ cW=>Qw hm cW) hk
theorem adz {K K':List (Nat×ae)→eK→(Nat→Value)→ae→Prop} (hm:∀a b f h,K a b f h→K' a b f h):∀{l:List km} {j:Nat} {aN:List (Nat×ae)} {aG:eK} {f:Nat→Value} {h:ae},
  vZ l j aN aG K f h→vZ l j aN aG K' f h
 | [],_,_,_,_,_,hk=>hm _ _ _ _ hk
 | _::_,_,_,_,_,_,hk=>ac1 (fun _ _ _ _ cW=>adz hm cW) hk
theorem adx {P:Program} {K:(Nat→Value)→ae→Prop}:∀{gs:List (Option (Nat×Bool)×List km)} {j:Nat} {aN:List (Nat×ae)} {aG:eK} {f:Nat→Value} {h:ae},(∀g l,(g,l)∈gs→∀o∈l,leaves g o.dst=true)→
  od P gs j aN aG K f h→lF P (uA gs) j aN aG K f h:=by
 intro gs
 induction gs with
 | nil=>intro j aN aG f h _ hk;exact hk
 | cons a gs ih=>
  obtain ⟨g,l⟩:=a
  intro j aN aG f h hl hk
  have oX:∀g' l',(g',l')∈gs→∀o∈l',leaves g' o.dst=true:=fun g' l' hm=>hl g' l' (by simp [hm])
  simp only [uA]
  cases g with
  | none=>
   simp only [od] at hk
   exact ady (hl none l (by simp)) (fun s b hs=>by cases hs) (Qw (fun a b f h cW=>ih oX cW) hk)
  | some sb=>
   obtain ⟨s,b⟩:=sb
   simp only [od] at hk
   obtain ⟨e1,e2⟩:=IX hk
   rcases e2 with ⟨e2,e3⟩ | ⟨e2,e3⟩
   ·exact ady (hl _ l (by simp)) (fun s' b' hs=>by cases hs;exact ⟨e1,e2⟩) (Qw (fun a b f h cW=>ih oX cW) e3)
   ·exact awz (hl _ l (by simp)) e1 e2 (adz (fun a b f h cW=>ih oX cW) e3)
end
section
def eB (V:Nat→Value) (S:List Nat):List cS→Nat→(Nat→Value)→(Nat→Value)
 | [],_,f=>f
 | d::ds,i,f=>eB V S ds (i+1) (if S.contains i then dK f d.op.dst (V i) else f)
theorem xQ {V:Nat→Value} {S S':List Nat} {t:Nat}:∀{l:List cS} {i:Nat} {f f':Nat→Value},(∀k d,l[k]?=some d→d.op.dst=some t→(i+k∈S↔i+k∈S'))→f t=f' t→eB V S l i f t=eB V S' l i f' t
 | [],i,f,f',_,hf=>hf
 | d::ds,i,f,f',h,hf=>by
  simp only [eB]
  refine xQ (fun k d' hk hd=>?_) ?_
  ·have:=h (k+1) d' (by simpa using hk) hd
   rw [show i+(k+1)=i+1+k by omega] at this
   exact this
  ·by_cases hd:d.op.dst=some t
   ·have:=h 0 d rfl hd
    simp only [add_zero] at this
    by_cases hi:i∈S
    ·simp [hi,this.1 hi,hd,dK,tV]
    ·have iE:i∉S':=fun h=>hi (this.2 h)
     simp [hi,iE,hf]
   ·have bm:∀v g,dK g d.op.dst v t=g t:=by
     intro v g
     cases xY:d.op.dst with
     | none=>rfl
     | some x=>
      have:t≠x:=by rintro rfl;exact hd xY
      simp [dK,tV,this]
    split <;> split <;> simp [bm,hf]
theorem Qp {V:Nat→Value} {S:List Nat} {t:Nat}:∀{l:List cS} {i:Nat} {f:Nat→Value} {k:Nat} {d:cS},l[k]?=some d→d.op.dst=some t→i+k∈S→
  (∀k' d',l[k']?=some d'→d'.op.dst=some t→k<k'→i+k'∉S)→eB V S l i f t=V (i+k)
 | [],i,f,k,d,hk,_,_,_=>by simp at hk
 | d0::ds,i,f,k,d,hk,hd,hS,Jf=>by
  simp only [eB]
  cases k with
  | zero=>
   simp at hk;subst hk
   simp only [add_zero] at hS⊢
   have:eB V S ds (i+1) (if S.contains i=true then dK f d0.op.dst (V i) else f) t=eB V [] ds (i+1) (if S.contains i=true then dK f d0.op.dst (V i) else f) t:=by
    refine xQ (fun k' d' cW om=>?_) rfl
    have:=Jf (k'+1) d' (by simpa using cW) om (by omega)
    rw [show i+(k'+1)=i+1+k' by omega] at this
    simp [this]
   rw [this]
   have EA:∀(l:List cS) (i:Nat) (f:Nat→Value),eB V [] l i f=f:=by
    intro l
    induction l with
    | nil=>intro i f;rfl
    | cons a l ih=>intro i f;simp [eB,ih]
   rw [EA]
   simp [hS,hd,dK,tV]
  | succ k=>
   have:=Qp (V:=V) (S:=S) (l:=ds) (i:=i+1) (f:=if S.contains i=true then dK f d0.op.dst (V i) else f) (k:=k) (d:=d) (by simpa using hk) hd (by rw [show i+1+k=i+(k+1) by omega];exact hS) (by
    intro k' d' cW om aB
    have:=Jf (k'+1) d' (by simpa using cW) om (by omega)
    rw [show i+(k'+1)=i+1+k' by omega] at this
    exact this)
   rw [this]
   congr 1
   omega
theorem Eb {P:Program} {l:List cS} {F:Nat→Nat→Value} {H:Nat→ae} {V:Nat→Value} (T:Trace P l 0 F H V):∀(r:List cS) (i:Nat) (S:List Nat) (j:Nat),(∀k,r[k]?=l[i+k]?)→(∀k,k∈S↔k<j)→i≤j→j≤i+r.length→
  eB V S r i (F i)=F j
 | [],i,S,j,_,_,h1,h2=>by
  simp at h2
  obtain rfl:i=j:=by omega
  rfl
 | d::r,i,S,j,hr,hS,h1,h2=>by
  simp only [eB]
  have h0:=hr 0
  simp only [List.getElem?_cons_zero,add_zero] at h0
  have hu:=T.yE i d h0.symm
  simp only [zero_add] at hu
  by_cases fX:i<j
  ·have:i∈S:=(hS i).2 fX
   simp only [List.contains_eq_mem,this,decide_true,if_true]
   rw [←hu]
   exact Eb T r (i+1) S j (fun k=>by have:=hr (k+1);rw [show i+(k+1)=i+1+k by omega] at this;simpa using this) hS (by omega) (by simp at h2;omega)
  ·obtain rfl:i=j:=by omega
   have hni:i∉S:=fun h=>by have:=(hS i).1 h;omega
   simp only [List.contains_eq_mem,hni,decide_false,Bool.false_eq_true,if_false]
   have axW:∀(r:List cS) (k:Nat) (f:Nat→Value),i≤k→eB V S r k f=f:=by
    intro r
    induction r with
    | nil=>intro k f _;rfl
    | cons a r ih=>
     intro k f hk
     have:k∉S:=fun h=>by have:=(hS k).1 h;omega
     simp [eB,this,ih (k+1) f (by omega)]
   exact axW r (i+1) _ (by omega)
def Di (es:List (List Nat)) (S:List Nat):Prop:=∀j e,j∈S→e∈(es.getD j [])→e∈S
theorem alm {qc:List Nat}:∀{es:List Nat} {i:Nat},(wY qc es).testBit i=true→∃e∈es,i=e∨(qc.getD e 0).testBit i=true
 | [],i,h=>by simp [wY] at h
 | e::es,i,h=>by
  simp only [wY,Nat.testBit_or,or_eq_true] at h
  rcases h with (h | h) | h
  ·refine ⟨e,by simp,.inl ?_⟩
   rw [Nat.testBit_two_pow] at h
   exact (by simpa using h:e=i).symm
  ·exact ⟨e,by simp,.inr h⟩
  ·obtain ⟨e',h1,h2⟩:=alm h
   exact ⟨e',by simp [h1],h2⟩
theorem auF:∀{es:List (List Nat)} {acc:List Nat} {all:List (List Nat)},(∀k,es[k]?=all[acc.length+k]?)→(∀j i,j<acc.length→(acc.getD j 0).testBit i=true→∃e∈all.getD j [],i=e∨((jM es acc).getD e 0).testBit i=true)→
  (∀j i,((jM es acc).getD j 0).testBit i=true→∃e∈all.getD j [],i=e∨((jM es acc).getD e 0).testBit i=true):=by
 intro es
 induction es with
 | nil=>
  intro acc all _ Ej j i h
  simp only [jM] at h⊢Ej
  by_cases hj:j<acc.length
  ·exact Ej j i hj h
  ·have:acc.getD j 0=0:=by simp [getD,le_of_not_lt hj]
   rw [this] at h
   simp at h
 | cons e0 es ih=>
  intro acc all fh Ej j i h
  simp only [jM] at h⊢Ej
  have dR:∀(es:List (List Nat)) (acc:List Nat) (k:Nat),k<acc.length→(jM es acc).getD k 0=acc.getD k 0:=by
   intro es
   induction es with
   | nil=>intro acc k _;rfl
   | cons a es ih'=>
    intro acc k hk
    simp only [jM]
    rw [ih' _ k (by simp;omega)]
    simp [getD,getElem?_append_left hk]
  refine ih (acc:=acc++[wY acc e0]) (all:=all) ?_ ?_ j i h
  ·intro k
   have:=fh (k+1)
   simp only [List.getElem?_cons_succ] at this
   rw [this]
   congr 1
   simp
   omega
  ·intro j' i' Es hb
   by_cases aB:j'<acc.length
   ·rw [show (acc++[wY acc e0]).getD j' 0=acc.getD j' 0 by simp [getD,getElem?_append_left aB]] at hb
    exact Ej j' i' aB hb
   ·obtain rfl:j'=acc.length:=by simp at Es;omega
    rw [show (acc++[wY acc e0]).getD acc.length 0=wY acc e0 by simp [getD]] at hb
    obtain ⟨e,h1,h2⟩:=alm hb
    have h0:=fh 0
    simp only [List.getElem?_cons_zero,add_zero] at h0
    refine ⟨e,by simp [getD,←h0,h1],?_⟩
    rcases h2 with h2 | h2
    ·exact .inl h2
    ·right
     have awW:e<acc.length:=by
      apply byContradiction
      intro cL
      have:acc.getD e 0=0:=by simp [getD,le_of_not_lt cL]
      rw [this] at h2
      simp at h2
     rw [dR _ _ _ (by simp;omega)]
     simpa [getD,getElem?_append_left awW] using h2
theorem KZ {es:List (List Nat)} {S:List Nat} (hS:Di es S) (zH:∀j e,e∈es.getD j []→e<j):∀(j i:Nat),(∀e∈es.getD j [],e∈S)→((jM es []).getD j 0).testBit i=true→i∈S:=by
 intro j
 induction j using Nat.strongRecOn with
 | _ j ih=>
  intro i he hb
  obtain ⟨e,h1,h2⟩:=auF (es:=es) (acc:=[]) (all:=es) (fun k=>by simp) (fun j i hj=>by simp at hj) j i hb
  rcases h2 with rfl | h2
  ·exact he _ h1
  ·exact ih e (zH j e h1) i (fun e' fK=>hS e e' (he e h1) fK) h2
end
section
section
variable {P : Program} {N : Nat}
theorem Mr {l:List cS} {F:Nat→Nat→Value} {H:Nat→ae} {V:Nat→Value} (T:Trace P l 0 F H V) {i:Nat}:∀(d:Nat),i+d≤l.length→(∀e oe,l[e]?=some oe→oe.op.op.dJ=true→¬(i≤e∧e<i+d))→H (i+d)=H i
 | 0,_,_=>rfl
 | d+1,hl,hE=>by
  have ih:=Mr T d (by omega) (fun e oe h1 h2 h3=>hE e oe h1 h2 ⟨h3.1,by omega⟩)
  have aB:i+d<l.length:=by omega
  have bQ:l[i+d]?=some l[i+d]:=getElem?_eq_getElem aB
  have Jo:l[i+d].op.op.dJ=false:=by
   cases hq:l[i+d].op.op.dJ with
   | false=>rfl
   | true=>exact absurd ⟨by omega,by omega⟩ (hE (i+d) _ bQ hq)
  rw [show i+(d+1)=i+d+1 by omega]
  rw [←ih]
  have hy:=T.yes (i+d) _ bQ
  have hn:=T.no (i+d) _ bQ
  simp only [zero_add] at hy hn
  cases hw:iW l[i+d].op.guard (F (i+d)) with
  | false=>exact (hn hw).2
  | true=>
   have hs:=hy hw
   generalize l[i+d].op.op=io at hs Jo
   cases io with
   | p po=>
    simp only [dc,fE] at hs
    split at hs
    ·exact hs.2.symm
    ·exact hs.elim
   | l lo=>
    simp only [dc,fE] at hs
    split at hs
    ·exact hs.2.symm
    ·exact hs.elim
   | e eo=>cases Jo
   | call g args=>cases Jo
   | lh x args=>cases Jo
theorem rA {l:List cS} {F:Nat→Nat→Value} {H:Nat→ae} {V:Nat→Value} (T:Trace P l 0 F H V) {i k:Nat} (pO:i≤k) (hk:k≤l.length) (hE:∀e oe,l[e]?=some oe→oe.op.op.dJ=true→¬(i≤e∧e<k)):H k=H i:=by
 have:=Mr T (i:=i) (k-i) (by omega) (fun e oe h1 h2 h3=>hE e oe h1 h2 ⟨h3.1,by omega⟩)
 rw [show i+(k-i)=k by omega] at this
 exact this
def Na (l:List cS) (S:List Nat) (m:Nat):Prop:=∀e oe,l[e]?=some oe→oe.op.op.dJ=true→(e∈S↔e<m)
theorem FD {l:List cS} (h:KT l=true) {i j:Nat} {oi oj:cS} (hi:l[i]?=some oi) (hj:l[j]?=some oj):CK oj j oi i=true:=by
 unfold KT at h
 rw [all_eq_true] at h
 have h1:=h (oj,j) (List.mem_zipIdx_iff_getElem?.2 hj)
 simp only at h1
 rw [all_eq_true] at h1
 exact h1 (oi,i) (List.mem_zipIdx_iff_getElem?.2 hi)
theorem ak9 {oi oj:cS} {i j t:Nat} (h:CK oj j oi i=true) (bm:i≠j) (hd:oi.op.dst=some t) (ht:vv oj t=true):(if i<j then oj.pre.testBit i else oi.pre.testBit j)=true:=by
 unfold CK at h
 rw [hd] at h
 simp only [and_eq_true,or_eq_true,beq_iff_eq,ht,Bool.not_true,Bool.false_eq_true,false_or] at h
 rcases h.1 with h | h
 ·exact absurd h bm
 ·exact h
theorem UO {oi oj:cS} {i j:Nat} (h:CK oj j oi i=true) (aB:i<j) (hi:oi.op.op.dJ=true) (hj:oj.op.op.dJ=true):oj.pre.testBit i=true:=by
 unfold CK at h
 simp only [and_eq_true,aB,decide_true,hi,hj,Bool.and_self,Bool.not_true,Bool.false_or] at h
 exact h.2
theorem au8 {ops:Array Oper} {l:List cS} {F:Nat→Nat→Value} {H:Nat→ae} {V:Nat→Value} (T:Trace P l 0 F H V) (hlen:l.length=ops.size)
  (awT:∀(k:Nat) (o:Oper) (d:cS),ops[k]?=some o→l[k]?=some d→zm P N ops o=some d.op)
  (ik:∀k d,l[k]?=some d→d.pre=(jM (ops.toList.map fv) []).getD k 0)
  (zH:∀j e,e∈(ops.toList.map fv).getD j []→e<j) (yh:KT l=true) {S r:List Nat} (hv:yX ops S r):
  Di (ops.toList.map fv) S→(∀i∈S,i<ops.size)→∀m,m≤l.length→Na l S m→∀S' B ρ a w,ep P N B ρ (eB V S l 0 (F 0)) (H m) a w→∀Q:Exit→Act→World→Prop,
   (∀av a' w',ep P N B av (F l.length) (H l.length) a' w'→Tr ρ (H m) w av (H l.length) w'→Q .normal a' w')→wpOpsIn (FR S') 0 P ops Q r a w:=by
 induction hv with
 | nil fh=>
  rename_i S
  intro fO aB m hm b7 S' B ρ a w R Q hq
  have hF:eB V S l 0 (F 0)=F l.length:=by
   have h1:=Eb T l 0 (List.range l.length) l.length (fun k=>by simp) (fun k=>by simp) (by omega) (by omega)
   rw [←h1]
   funext t
   refine xQ (fun k d hk _=>?_) rfl
   have ie:=(bL hk).1
   simp only [zero_add,mem_range]
   exact ⟨fun _=>ie,fun _=>fh k (by omega)⟩
  have hH:H l.length=H m:=by
   refine rA T hm (le_refl _) ?_
   rintro e oe he hE ⟨h1,h2⟩
   have:=(b7 e oe he hE).1 (fh e (by omega))
   omega
  rw [hF] at R
  simp only [wpOpsIn]
  refine hq ρ a w (by rw [hH];exact R) ?_
  rw [hH]
  exact Tr.refl R.heap
 | cons wz wu zR hvr ih=>
  rename_i S j o r
  intro fO aB m hm b7 S' B ρ a w R Q hq
  have wm:j<ops.size:=(Array.getElem?_eq_some_iff.1 wz).1
  have bQ:l[j]?=some (l[j]'(by omega)):=getElem?_eq_getElem _
  generalize I6:l[j]'(by omega)=d at bQ
  have hc:=awT j o d wz bQ
  obtain ⟨q1,q2,q3,q4,q5⟩:=DR hc
  have jq:(ops.toList.map fv).getD j []=fv o:=by
   simp [getD,wz]
  have uK:Di (ops.toList.map fv) (j::S):=by
   intro k e hk he
   rcases mem_cons.1 hk with rfl | hk
   ·rw [jq] at he
    exact mem_cons_of_mem _ (zR e he)
   ·exact mem_cons_of_mem _ (fO k e hk he)
  have before:∀i,d.pre.testBit i=true→i∈S:=by
   intro i hb
   rw [ik j d bQ] at hb
   exact KZ fO zH j i (by rw [jq];exact zR) hb
  have behind:∀k dk,l[k]?=some dk→dk.pre.testBit j=true→k∉S:=by
   intro k dk hk hb Ew
   rw [ik k dk hk] at hb
   exact wu (KZ fO zH k j (fun e he=>fO k e Ew he) hb)
  have slot:∀t,vv d t=true→eB V S l 0 (F 0) t=F j t:=by
   intro t ht
   have h1:=Eb T l 0 (List.range j) j (fun k=>by simp) (fun k=>by simp) (by omega) (by omega)
   rw [←h1]
   refine xQ (fun k dk hk zQ=>?_) rfl
   simp only [zero_add,mem_range]
   by_cases rQ:k=j
   ·subst rQ
    exact ⟨fun h=>absurd h wu,fun h=>absurd h (Nat.lt_irrefl _)⟩
   ·have hp:=ak9 (FD yh hk bQ) rQ zQ ht
    by_cases nf:k<j
    ·rw [if_pos nf] at hp
     exact ⟨fun _=>nf,fun _=>before k hp⟩
    ·rw [if_neg nf] at hp
     exact ⟨fun h=>absurd h (behind k dk hk hp),fun h=>absurd h nf⟩
  have Af:∀t∈d.op.reads,eB V S l 0 (F 0) t=F j t:=fun t ht=>slot t (by simp [vv,ht])
  have Cf:∀t∈tmpsOf d.op.op.iA,eB V S l 0 (F 0) t=F j t:=fun t ht=>Af t (by simp [iZ.reads,ht])
  have EP:iW d.op.guard (eB V S l 0 (F 0))=iW d.op.guard (F j):=by
   cases hg:d.op.guard with
   | none=>rfl
   | some sb=>
    obtain ⟨s,b⟩:=sb
    simp only [iW]
    rw [Af s (by simp [iZ.reads,hg])]
  have Q4:sU d.op.guard (eB V S l 0 (F 0)):=by
   have:=T.QD j d bQ
   simp only [zero_add] at this
   cases hg:d.op.guard with
   | none=>trivial
   | some sb=>
    obtain ⟨s,b⟩:=sb
    rw [hg] at this
    simp only [sU] at this⊢
    rw [Af s (by simp [iZ.reads,hg])]
    exact this
  have ER:=F3 q4 R Q4
  have jw:eB V (j::S) l 0 (F 0)=dK (eB V S l 0 (F 0)) o.dst (V j):=by
   rw [←q5]
   funext t
   by_cases oV:d.op.dst=some t
   ·have h1:=Qp (V:=V) (S:=j::S) (l:=l) (i:=0) (f:=F 0) (k:=j) (d:=d) bQ oV (by simp) (by
     intro k' d' cW om nf
     have hp:=ak9 (FD yh cW bQ) (by omega) om (by simp [vv,oV])
     rw [if_neg (by omega)] at hp
     have:=behind k' d' cW hp
     simp only [zero_add,mem_cons,not_or]
     exact ⟨by omega,this⟩)
    rw [h1]
    simp [oV,dK,tV]
   ·have h1:eB V (j::S) l 0 (F 0) t=eB V S l 0 (F 0) t:=by
     refine xQ (fun k dk hk zQ=>?_) rfl
     have rQ:k≠j:=by
      rintro rfl
      rw [bQ] at hk
      cases hk
      exact oV zQ
     simp [rQ]
    rw [h1]
    cases xY:d.op.dst with
    | none=>rfl
    | some x=>
     have:t≠x:=by rintro rfl;exact oV xY
     simp [dK,tV,this]
  have kr:∀i∈j::S,i<ops.size:=by
   intro i hi
   rcases mem_cons.1 hi with rfl | hi
   ·exact wm
   ·exact aB i hi
  -- gv FP,where gv az1 writes memory
  have FQ:d.op.op.dJ=true→H m=H j∧Na l (j::S) (j+1):=by
   intro hE
   have qJ:m≤j:=by
    apply byContradiction
    intro h
    exact wu ((b7 j d bQ hE).2 (by omega))
   refine ⟨?_,?_⟩
   ·refine (rA T qJ (by omega) ?_).symm
    rintro e oe he mB ⟨h1,h2⟩
    have hb:=UO (FD yh he bQ) h2 mB hE
    have:=(b7 e oe he mB).1 (before e hb)
    omega
   ·intro e oe he mB
    rcases Nat.lt_trichotomy e j with nf | rfl | uN
    ·have hb:=UO (FD yh he bQ) nf mB hE
     exact ⟨fun _=>by omega,fun _=>mem_cons_of_mem _ (before e hb)⟩
    ·exact ⟨fun _=>by omega,fun _=>by simp⟩
    ·have hb:=UO (FD yh bQ he) uN hE mB
     have:=behind e oe he hb
     constructor
     ·intro h
      rcases mem_cons.1 h with h | h
      ·omega
      ·exact absurd h this
     ·intro h;omega
  have CQ:d.op.op.dJ=false→Na l (j::S) m:=by
   intro hE e oe he mB
   have bm:e≠j:=by
    rintro rfl
    rw [bQ] at he
    cases he
    rw [hE] at mB
    cases mB
   rw [←b7 e oe he mB]
   simp [bm]
  have ET:=T.yes j d bQ
  have dB:=T.no j d bQ
  simp only [zero_add] at ET dB
  simp only [wpOpsIn,wz]
  by_cases hw:iW d.op.guard (F j)=true
  ·rw [if_pos (by rw [ER,EP,hw])]
   have hs:=ET hw
   by_cases hE:d.op.op.dJ=true
   ·obtain ⟨e1,e2⟩:=FQ hE
    rw [←Lx Cf,←e1] at hs
    obtain ⟨v,h',st,hv,hh⟩:=AR (N:=N) q3 q1 hs
    subst hv
    subst hh
    refine st S' B ρ a w R _ _ ?_
    intro av v' w' wG HH TT
    have R':=R.vh q2 TT wG HH
    rw [←jw] at R'
    exact ih uK kr (j+1) (by omega) e2 S' B av _ w' R' Q fun mS sO ke oP uj=>hq mS sO ke oP (TT.trans uj)
   ·have fN:d.op.op.dJ=false:=by simpa using hE
    -- vB is looked at has one value at this FP and in gv aGC order
    have dT:dc P d.op.op (eB V S l 0 (F 0)) (H m) fun v h'=>v=V j∧h'=H m:=by
     rw [Lx Cf]
     cases cY:d.op.op with
     | p po=>
      rw [cY] at hs
      simp only [dc,fE] at hs⊢
      split at hs
      ·exact ⟨hs.1,trivial⟩
      ·exact hs.elim
     | l lo=>
      have ca:fD lo (ev (F j)) (H m)=some (V j):=by
       have Cn:fD lo (ev (F j)) (H j)=some (V j):=by
        rw [cY] at hs
        simp only [dc,fE] at hs
        split at hs
        ·rename_i v hv
         rw [hv,hs.1]
        ·exact hs.elim
       rcases Nat.le_total m j with qJ | qJ
       ·by_cases hex:∃e oe,l[e]?=some oe∧oe.op.op.dJ=true∧m≤e∧e<j
        ·-- gv least of aFe
         have key:∀n,(∃e oe,l[e]?=some oe∧oe.op.op.dJ=true∧m≤e∧e<j∧e<n)→∃e oe,l[e]?=some oe∧oe.op.op.dJ=true∧m≤e∧e<j∧∀e' ju,l[e']?=some ju→ju.op.op.dJ=true→¬(m≤e'∧e'<e):=by
          intro n
          induction n with
          | zero=>rintro ⟨e,oe,_,_,_,_,h⟩;omega
          | succ n tC=>
           rintro ⟨e,oe,h1,h2,h3,h4,h5⟩
           by_cases eD:∃e oe,l[e]?=some oe∧oe.op.op.dJ=true∧m≤e∧e<j∧e<n
           ·exact tC eD
           ·refine ⟨e,oe,h1,h2,h3,h4,?_⟩
            rintro e' ju k1 k2 ⟨k3,k4⟩
            exact eD ⟨e',ju,k1,k2,k3,by omega,by omega⟩
         obtain ⟨e0,AQ,g1,g2,g3,g4⟩:=hex
         obtain ⟨e,oe,h1,h2,h3,h4,h5⟩:=key j ⟨e0,AQ,g1,g2,g3,g4,g4⟩
         have zB:H e=H m:=rA T h3 (by omega) (fun e' ju k1 k2 k3=>h5 e' ju k1 k2 k3)
         rw [←zB]
         have tj:d.pre.testBit e=false:=by
          cases hb:d.pre.testBit e with
          | false=>rfl
          | true=>
           have:=(b7 e oe h1 h2).1 (before e hb)
           omega
         have:=T.UU e oe j d lo h1 h2 bQ cY (by simpa using hw) h4 (by simpa using tj)
         simpa using this
        ·have zC:H j=H m:=rA T qJ (by omega) (fun e oe h1 h2 h3=>hex ⟨e,oe,h1,h2,h3⟩)
         rw [←zC]
         exact Cn
       ·by_cases hex:∃e oe,l[e]?=some oe∧oe.op.op.dJ=true∧j≤e∧e<m
        ·have key:∀n,(∃e oe,l[e]?=some oe∧oe.op.op.dJ=true∧j≤e∧e<m∧m≤e+n)→∃e oe,l[e]?=some oe∧oe.op.op.dJ=true∧j≤e∧e<m∧∀e' ju,l[e']?=some ju→ju.op.op.dJ=true→¬(e+1≤e'∧e'<m):=by
          intro n
          induction n with
          | zero=>rintro ⟨e,oe,_,_,_,_,h⟩;omega
          | succ n tC=>
           rintro ⟨e,oe,h1,h2,h3,h4,h5⟩
           by_cases eD:∃e oe,l[e]?=some oe∧oe.op.op.dJ=true∧j≤e∧e<m∧m≤e+n
           ·exact tC eD
           ·refine ⟨e,oe,h1,h2,h3,h4,?_⟩
            rintro e' ju k1 k2 ⟨k3,k4⟩
            exact eD ⟨e',ju,k1,k2,by omega,by omega,by omega⟩
         obtain ⟨e0,AQ,g1,g2,g3,g4⟩:=hex
         obtain ⟨e,oe,h1,h2,h3,h4,h5⟩:=key m ⟨e0,AQ,g1,g2,g3,g4,by omega⟩
         have bm:e≠j:=by
          rintro rfl
          rw [bQ] at h1
          cases h1
          rw [fN] at h2
          cases h2
         have zB:H m=H (e+1):=rA T (by omega) hm (fun e' ju k1 k2 k3=>h5 e' ju k1 k2 k3)
         rw [zB]
         have tj:oe.pre.testBit j=false:=by
          cases hb:oe.pre.testBit j with
          | false=>rfl
          | true=>exact absurd ((b7 e oe h1 h2).2 h4) (behind e oe h1 hb)
         have:=T.Qq j d lo e oe bQ cY (by simpa using hw) h1 h2 (by omega) (by simpa using tj)
         simpa using this
        ·have zC:H m=H j:=rA T qJ hm (fun e oe h1 h2 h3=>hex ⟨e,oe,h1,h2,h3⟩)
         rw [zC]
         exact Cn
      simp [dc,fE,ca]
     | e eo=>rw [cY] at fN;cases fN
     | call g args=>rw [cY] at fN;cases fN
     | lh x args=>rw [cY] at fN;cases fN
    obtain ⟨v,h',st,hv,hh⟩:=AR (N:=N) q3 q1 dT
    subst hv
    subst hh
    refine st S' B ρ a w R _ _ ?_
    intro av v' w' wG HH TT
    have R':=R.vh q2 TT wG HH
    rw [←jw] at R'
    exact ih uK kr m hm (CQ fN) S' B av _ w' R' Q fun mS sO ke oP uj=>hq mS sO ke oP (TT.trans uj)
  ·have wH:iW d.op.guard (F j)=false:=by simpa using hw
   rw [if_neg (by rw [ER,EP,wH];simp)]
   obtain ⟨n1,n2⟩:=dB wH
   have R':=R.vh q2 (Tr.refl R.heap) (ay.undef _) R.heap
   rw [n1] at jw
   rw [←jw] at R'
   by_cases hE:d.op.op.dJ=true
   ·obtain ⟨e1,e2⟩:=FQ hE
    have e3:H (j+1)=H m:=by rw [n2,e1]
    exact ⟨fun _ _=>trivial,ih uK kr (j+1) (by omega) e2 S' B ρ _ w (by rw [e3];exact R') Q fun mS sO ke oP uj=>hq mS sO ke oP (by rw [e3] at uj;exact uj)⟩
   ·exact ⟨fun _ _=>trivial,ih uK kr m hm (CQ (by simpa using hE)) S' B ρ _ w R' Q hq⟩
theorem Wx:∀{ios:List iZ} {ps:List Nat},ios.length≤ps.length→(oM ios ps).length=ios.length∧∀(k:Nat) (d:cS),(oM ios ps)[k]?=some d→ios[k]?=some d.op∧d.pre=ps.getD k 0
 | [],ps,_=>⟨by simp [oM],fun k d h=>by simp [oM] at h⟩
 | o::ios,[],h=>by simp at h
 | o::ios,p::ps,h=>by
  obtain ⟨h1,h2⟩:=Wx (ios:=ios) (ps:=ps) (by simpa using h)
  refine ⟨by simp [oM,h1],?_⟩
  intro k d hk
  cases k with
  | zero=>simp [oM] at hk;subst hk;simp
  | succ k=>
   simp only [oM,List.getElem?_cons_succ] at hk
   obtain ⟨a,b⟩:=h2 k d hk
   exact ⟨by simpa using a,by simpa [getD] using b⟩
theorem Ii:∀(es:List (List Nat)) (acc:List Nat),(jM es acc).length=acc.length+es.length
 | [],acc=>by simp [jM]
 | e::es,acc=>by simp only [jM];rw [Ii];simp;omega
theorem PV {ops:Array Oper}:∀{os:List Oper} {l:List iZ},lQ P N ops os=some l→l.length=os.length∧∀(k:Nat) (o:Oper) (x:iZ),os[k]?=some o→l[k]?=some x→zm P N ops o=some x
 | [],l,h=>by
  simp [lQ] at h
  subst h
  exact ⟨rfl,fun k o x hk=>by simp at hk⟩
 | o::os,l,h=>by
  obtain ⟨x,xs,h1,h2,rfl⟩:=vR h
  obtain ⟨e1,e2⟩:=PV h2
  refine ⟨by simp [e1],?_⟩
  intro k o' x' hk hx
  cases k with
  | zero=>simp at hk hx;subst hk;subst hx;exact h1
  | succ k=>exact e2 k o' x' (by simpa using hk) (by simpa using hx)
theorem ayf {out:Bool} {id:Nat} {ops:Array Oper} {l:List cS} {K:(Nat→Value)→ae→Prop} {f:Nat→Value} {h:ae} (hc:PR P N ops=some l) (hi:lF P l 0 [] [] K f h):
  ∃f' h',gT P N out (.region id ops true) f h .normal f' h'∧K f' h':=by
 unfold PR at hc
 split at hc
 ·rename_i ios Ra
  split at hc
  ·rename_i sZ
   simp at hc
   simp only [and_eq_true] at sZ
   obtain ⟨⟨Ey,sX⟩,yh⟩:=sZ
   rw [hc] at yh
   obtain ⟨g1,g2⟩:=PV Ra
   have Rg:ios.length≤(jM (ops.toList.map fv) []).length:=by rw [Ii];simp [g1]
   obtain ⟨z1,z2⟩:=Wx Rg
   rw [hc] at z1 z2
   have hlen:l.length=ops.size:=by rw [z1,g1];simp
   obtain ⟨F,H,V,f1,f2,f3,T,_,_⟩:=Sh hi
   simp only [zero_add] at f3
   refine ⟨F l.length,H l.length,?_,f3⟩
   ·intro S hS B ρ a w R
    refine wpIn_region_draw ?_
    intro t
    have RN:Region.schedule (P.follows .mixedOrders) ops t=Region.linearise .any ops t:=by
     unfold Region.schedule
     rw [Ey]
     simp
    rw [RN]
    have ca:=afZ sX t
    have zH:∀j e,e∈(ops.toList.map fv).getD j []→e<j:=by
     intro j e he
     by_cases hj:j<ops.size
     ·have hg:ops.toList[j]?=some ops[j]:=by simp [hj]
      have:(ops.toList.map fv).getD j []=fv ops[j]:=by simp [getD,hj]
      rw [this] at he
      have:=GX sX j ops[j] hg e he
      omega
     ·have:(ops.toList.map fv).getD j []=[]:=by simp [getD,le_of_not_lt hj]
      rw [this] at he
      simp at he
    have EA:∀(l:List cS) (i:Nat) (f:Nat→Value),eB V [] l i f=f:=by
     intro l
     induction l with
     | nil=>intro i f;rfl
     | cons a l ih=>intro i f;simp [eB,ih]
    have R1:ep P N B ρ (eB V [] l 0 (F 0)) (H 0) a { w with drawn:=w.drawn+1 }:=by
     rw [EA,f1,f2]
     exact R.mono (Tr.drew R.heap _) (R.heap.drew _)
    refine au8 T hlen ?_ ?_ zH yh ca (fun j e hj=>by simp at hj) (fun i hi=>by simp at hi) 0 (by omega) (fun e oe _ _=>by simp) S B ρ a _ R1 _ ?_
    ·intro k o d hk hd
     exact g2 k o d.op (by simpa using hk) (z2 k d hd).1
    ·intro k d hd
     exact (z2 k d hd).2
    ·intro av a' w' R' T'
     refine ⟨rfl,av,R',?_⟩
     have T0:=Tr.drew R.heap (w.drawn+1)
     rw [f2] at T'
     exact T0.trans T'
  ·cases hc
 ·cases hc
end
end
section
section
variable {P : Program} {w : World} {ρ : aI} {h : ae}
theorem aX.alloc (H:aX P ρ h w) (b:Obj):aX P ρ h (w.alloc b)∧Tr ρ h w ρ h (w.alloc b):=by
 have nb:=jZ.alloc w b
 refine ⟨⟨?_,H.inj,H.aV⟩,?_⟩
 ·intro i r hi
  obtain ⟨o,ho,hr⟩:=H.obj i r hi
  refine ⟨o,ho,?_⟩
  by_cases hd:o=.dead
  ·subst hd;trivial
  ·exact hr.mono (.refl _) (nb.old (CF H hi ⟨o,ho,hd⟩))
 ·exact {
   ext:=.refl _
   len:=le_refl _
   jN:=fun i r hi=>H.lt hi
   kinds:=fun i _ hm=>hm
   fresh:=fun i s h1 h2=>by rw [h1] at h2;cases h2
   iX:=by rw [nb.size];omega
   iC:=fun k hk _=>nb.old hk
   os:=nb.os
   tape:=nb.tape
   output:=nb.output }
theorem AX {l k:Nat} {o:Obj} (hk:k≠l):(w.putObj l o).heap[k]?=w.heap[k]?:=World.putObj_heap_other hk
theorem aX.put (H:aX P ρ h w) {l:Nat} (dB:∀j s,ρ j=some s→s.bu=l→¬eW h j) (o:Obj):aX P ρ h (w.putObj l o):=by
 refine ⟨?_,H.inj,H.aV⟩
 intro i r hi
 obtain ⟨o',ho,hr⟩:=H.obj i r hi
 refine ⟨o',ho,?_⟩
 by_cases hd:o'=.dead
 ·subst hd;trivial
 ·refine hr.mono (.refl _) (AX ?_)
  intro e
  exact dB i r hi e ⟨o',ho,hd⟩
theorem aX.afA (H:aX P ρ h w) {l:Nat} {rec:Loop} (hl:w.heap[l]?=some (.loop rec)) {j:Nat} {s:RI} (hj:ρ j=some s) (hs:s.bu=l) (hv:eW h j):∃c ls vs,h[j]?=some (.loop c ls vs):=by
 obtain ⟨o,ho,bm⟩:=hv
 obtain ⟨o',dN,hr⟩:=H.obj j s hj
 rw [ho] at dN
 cases dN
 subst hs
 cases o with
 | ro e xs=>obtain ⟨_,c,_,fr,h2,_⟩:=hr;rw [hl] at h2;cases h2
 | arr e xs=>obtain ⟨_,_,c,h2,_⟩:=hr;rw [hl] at h2;cases h2
 | smap es=>obtain ⟨aH,clock,h1,_⟩:=hr;rw [hl] at h1;cases h1
 | eP kd es=>obtain ⟨aH,clock,h1,_⟩:=hr;rw [hl] at h1;cases h1
 | df g c es=>obtain ⟨_,aH,h1,_⟩:=hr;rw [hl] at h1;cases h1
 | iter m s n l=>obtain ⟨_,rm,_,h1⟩:=hr;rw [hl] at h1;cases h1
 | loop c ls vs=>exact ⟨c,ls,vs,ho⟩
 | dead=>exact absurd rfl bm
theorem Tr.late {av:aI} {h':ae} {w':World} (T:Tr ρ h w av h' w') {l:Nat} (hl:w.heap.size≤l) (o:Obj) (i:Nat):Tr ρ h w av (h'.set i .dead) (w'.putObj l o) where
 ext:=T.ext
 len:=by simpa using T.len
 jN:=T.jN
 kinds:=by
  intro j hj hm
  refine T.kinds j hj ?_
  by_cases e:j=i
  ·subst e
   have aB:j<h'.length:=Nat.lt_of_lt_of_le hj T.len
   unfold cC at hm
   rw [getElem?_set_self aB] at hm
   rcases hm with ⟨_,_,h1⟩ | ⟨_,h1⟩ | ⟨_,_,_,h1⟩ | ⟨_,_,h1⟩ | ⟨_,_,_,h1⟩ | ⟨_,_,_,_,h1⟩ <;> cases h1
  ·unfold cC at hm⊢
   rw [getElem?_set_ne (Ne.symm e)] at hm
   exact hm
 fresh:=T.fresh
 iX:=by rw [World.putObj_size];exact T.iX
 iC:=fun k hk dB=>by rw [AX (by omega)];exact T.iC k hk dB
 os:=T.os
 tape:=T.tape
 output:=T.output
theorem aX.kill (H:aX P ρ h w) (i:Nat):aX P ρ (h.set i .dead) w:=by
 have hm:∀j,cC (h.set i .dead) j→cC h j:=by
  intro j hj
  by_cases e:j=i
  ·subst e
   unfold cC at hj
   by_cases aB:j<h.length
   ·rw [getElem?_set_self aB] at hj
    rcases hj with ⟨_,_,h1⟩ | ⟨_,h1⟩ | ⟨_,_,_,h1⟩ | ⟨_,_,h1⟩ | ⟨_,_,_,h1⟩ | ⟨_,_,_,_,h1⟩ <;> cases h1
   ·rw [getElem?_eq_none (by simpa using le_of_not_lt aB)] at hj
    rcases hj with ⟨_,_,h1⟩ | ⟨_,h1⟩ | ⟨_,_,_,h1⟩ | ⟨_,_,h1⟩ | ⟨_,_,_,h1⟩ | ⟨_,_,_,_,h1⟩ <;> cases h1
  ·unfold cC at hj⊢
   rw [getElem?_set_ne (Ne.symm e)] at hj
   exact hj
 have hl:∀j,eW (h.set i .dead) j→eW h j:=by
  intro j hj
  by_cases e:j=i
  ·subst e
   obtain ⟨o,ho,bm⟩:=hj
   by_cases aB:j<h.length
   ·rw [getElem?_set_self aB] at ho
    cases ho
    exact absurd rfl bm
   ·rw [getElem?_eq_none (by simpa using le_of_not_lt aB)] at ho
    cases ho
  ·unfold eW at hj⊢
   rw [getElem?_set_ne (Ne.symm e)] at hj
   exact hj
 refine ⟨?_,fun a b r s ha hb ng h1 h2=>H.inj a b r s ha hb ng (hm a h1) (hl b h2),H.aV⟩
 intro j r hj
 by_cases e:j=i
 ·subst e
  exact ⟨.dead,by rw [getElem?_set_self (H.lt hj)],trivial⟩
 ·obtain ⟨o,ho,hr⟩:=H.obj j r hj
  exact ⟨o,by rw [getElem?_set_ne (Ne.symm e)];exact ho,hr⟩
theorem aEr {g:FuncId} {first cap:Array Value} (m8:qp P g=true) (a:Act) (gx:Operand) (hy:a.eval gx=.func (.func g) first cap) (l:Nat) (w:World):
  ∃d,(resolve a.eval (rangeCall gx l) 0).run P w=.ok d w∧(invoke d.target d.args).run P w=.ok (.enter g (first++#[.func (.yield l) #[] #[]]++cap)) w:=by
 refine ⟨_,by simp [resolve,hy,Deferred.ofValue];rfl,?_⟩
 simp [invoke,PG m8,Act.eval]
theorem amn {N:Nat} {g:Operand} {ps:Array Tmp} {kn body:Code} {ls:List Nat} {K:ae→Prop} {f:Nat→Value} (aC:jy g=true)
  (hi:vk P (ev f g) ls (ls.map f) ⟨N,ps,kn,body⟩ h K):∃h',gT P N true (.rangeFunc g ps kn body) f h .normal f h'∧K h':=by
 unfold vk at hi
 split at hi
 ·rename_i F first cap hx
  obtain ⟨m8,v,h',rO,⟨c',ls',jS,bQ⟩,hk⟩:=hi
  refine ⟨_,?_,hk⟩
  intro S hS B ρ a w R
  obtain rfl:=hS rfl
  refine wpIn_rangeFunc fun fn _=>?_
  obtain ⟨H0,T0⟩:=R.heap.alloc (.deferred (some []))
  have kU:(w.alloc (.deferred (some []))).heap.size=w.heap.size+1:=World.size_alloc _ _
  have nb:=jZ.alloc (w.alloc (.deferred (some []))) (.loop { state:=.ready,pending:=none,fn,tmps:=a.tmps,params:=ps,assign:=kn,body,defers:=w.heap.size })
  obtain ⟨H1,T1⟩:=H0.new (h₀:=h) (o:=.loop ⟨N,ps,kn,body⟩ ls (ls.map f)) (r:=⟨w.heap.size+1,0,0,P.cellsOf 0,0⟩) nb kU.symm rfl rfl (fun _=>.inl rfl)
   ⟨_,by rw [←kU];exact nb.new,rfl,rfl,rfl,rfl,rfl,R.size,fun t=>by
    rcases Fm f ls t with e | e
    ·rw [e];exact (R.tmp t).mono (aI.wO R.heap.none)
    ·rw [e];exact .any _⟩
  have hr:=R.ev aC
  rw [hx] at hr
  generalize hy:a.eval g=y at hr
  cases hr with
  | func _ s1 s2 r1 r2=>
   rename_i Qj PH
   obtain ⟨d,axM,aw9⟩:=aEr (w:=((w.alloc (.deferred (some []))).alloc (.loop { state:=.ready,pending:=none,fn,tmps:=a.tmps,params:=ps,assign:=kn,body,defers:=w.heap.size }))) m8 a g hy (w.heap.size+1)
   refine ⟨_,_,_,d,_,F,_,_,run_enterLoop_outer fn a.tmps ps kn body,axM,fun _ _=>trivial,aw9,fun h=>(by cases h),?_⟩
   have hle:=aI.wO (r:=⟨w.heap.size+1,0,0,P.cellsOf 0,0⟩) R.heap.none
   have sW:bF (ρ.add h.length ⟨w.heap.size+1,0,0,P.cellsOf 0,0⟩) (first.toList++[.func (.yield h.length) #[] #[]]++cap.toList) (Qj++#[Value.func (.yield (w.heap.size+1)) #[] #[]]++PH).toList:=by
    have q1:=(bF.tU s1 r1).mono hle
    have q3:=(bF.tU s2 r2).mono hle
    have q2:bF (ρ.add h.length ⟨w.heap.size+1,0,0,P.cellsOf 0,0⟩) [.func (.yield h.length) #[] #[]] [.func (.yield (w.heap.size+1)) #[] #[]]:=
     .cons (ay.yield (i:=h.length) (r:=⟨w.heap.size+1,0,0,P.cellsOf 0,0⟩) (by simp [aI.add])) .nil
    simpa using (q1.append q2).append q3
   refine (acC (rO _ _ _ sW H1) none _).mono ?_
   rintro e w3 ⟨v',av,rfl,hv,H3,T3⟩
   have Sb:av h.length=some ⟨w.heap.size+1,0,0,P.cellsOf 0,0⟩:=T3.ext _ _ (by simp [aI.add])
   obtain ⟨o,ho,rT⟩:=H3.obj _ _ Sb
   rw [bQ] at ho
   cases ho
   obtain ⟨rec,g1,g2,g3,g4,g5,g6,g7,g8⟩:=rT
   have gq:=run_endLoop (P:=P) g1 (by rw [g2];decide)
   refine ⟨_,_,gq,?_⟩
   split
   rotate_left
   ·rename_i c hc;rw [g3] at hc;cases hc
   have TT:=(T0.trans (T1.trans T3))
   have Hk:=H3.kill h.length
   have axz:aX P av (h'.set h.length .dead) (w3.putObj (w.heap.size+1) (.loop { rec with state:=.exhausted })):=by
    refine Hk.put ?_ _
    intro j s hj hs wo
    obtain ⟨c,_,_,hc⟩:=Hk.afA g1 hj hs wo
    have bm:j≠h.length:=by
     rintro rfl
     rw [getElem?_set_self (H3.lt Sb)] at hc
     cases hc
    rw [getElem?_set_ne (Ne.symm bm)] at hc
    exact bm (H3.inj _ _ _ _ hj Sb hs (.inr (.inr (.inl ⟨_,_,_,hc⟩))) ⟨_,bQ,by simp⟩)
   have TL:=TT.late (l:=w.heap.size+1) (by omega) (.loop { rec with state:=.exhausted }) h.length
   refine ⟨rfl,av,⟨R.size,?_,fun t=>(R.tmp t).mono TL.ext,axz⟩,TL⟩
   have hD:(w3.putObj (w.heap.size+1) (.loop { rec with state:=.exhausted })).heap[w.heap.size]?=some (.deferred (some [])):=by
    rw [AX (by omega)]
    have e1:(w.alloc (.deferred (some []))).heap[w.heap.size]?=some (.deferred (some [])):=World.alloc_heap_new _ _
    have e2:=nb.old (k:=w.heap.size) (by omega)
    rw [T3.iC _ (by rw [nb.size];omega) ?_,e2,e1]
    intro j s hj hs hm
    exact H1.S8 (e2.trans e1) hj hs hm.live
   refine ⟨⟨w.heap.size,rfl,marks.base R.defers,hD,?_⟩,marks.tr R.heap TL R.defers⟩
   intro d' om he
   obtain ⟨D,e1,e2⟩:=marks.lt R.defers d' om
   rw [e1] at he
   have:=ago he
   omega
 ·exact hi.elim
end
end
section
section
variable {P : Program} {N : Nat}
theorem aq5 {a:mT} {g g':Operand→Value} (h:∀x∈a.iA,g x=g' x):lN a g=lN a g':=by
 cases a with
 | alloc e zs=>rfl
 | nM e n zs ps=>
  simp only [lN]
  rw [KU (ps:=ps) h]
 | make e b zs l c=>
  simp only [mT.iA,mem_cons,List.not_mem_nil,or_false,forall_eq_or_imp,forall_eq] at h
  simp only [lN,h.1,h.2]
 | ph g=>rfl
theorem aq6 {a:mT} {g:Operand→Value} {V:Nat→Value} {o:ak} (h:lN a g=some (V,o)) {ρ av:aI} {i j:Nat} {v':Value} (e:av j=ρ i) (hv:ay ρ (V i) v'):ay av (V j) v':=by
 have ptr:V=(fun i=>.pointer (some ⟨i,0,none⟩))→ay av (V j) v':=by
  rintro rfl
  cases hv with
  | ptr hr=>exact .ptr (by rw [e];exact hr)
 have slc:∀t n,V=(fun i=>sl t i 0 n)→ay av (V j) v':=by
  rintro t n rfl
  cases hv with
  | slice hr a b c d=>exact .slice (by rw [e];exact hr) a b c d
 have mp:V=(fun i=>.map (some i))→ay av (V j) v':=by
  rintro rfl
  cases hv with
  | map hr=>exact .map (by rw [e];exact hr)
 cases a with
 | ph g=>simp [lN] at h;exact mp h.1.symm
 | alloc t zs=>simp [lN] at h;exact ptr h.1.symm
 | nM t n zs ps=>simp only [lN,map_eq_some_iff,Prod.mk.injEq] at h;obtain ⟨_,_,h1,_⟩:=h;exact slc t n h1.symm
 | make t b zs l c=>
  simp only [lN] at h
  split at h
  ·split at h
   ·simp at h;exact slc t _ h.1.symm
   ·cases h
  ·cases h
theorem P8 {i:Nat} {o:ak} {u:Value} (h:oT i o=some u):(∃e xs,o=.arr e xs∧(∀x∈xs,nN i x=true)∧u=.agg (.int .i64 e::xs).toArray)∨∃g,o=.df g 0 []∧u=.tuple #[Ee g]:=by
 unfold oT at h
 split at h
 ·rename_i e xs
  split at h
  ·rename_i hx
   rw [all_eq_true] at hx
   injection h with h
   exact .inl ⟨e,xs,rfl,hx,h.symm⟩
  ·cases h
 ·rename_i g c es
  split at h
  ·rename_i hc
   obtain ⟨rfl,hc⟩:=hc
   rw [List.isEmpty_iff] at hc
   subst hc
   injection h with h
   exact .inr ⟨g,rfl,h.symm⟩
  ·cases h
 ·cases h
theorem awy {g g':fM} (h:Ee g=Ee g'):g=g':=by
 cases g <;> cases g' <;> simp [Ee] at h <;> first | rfl | (subst h;rfl) | (obtain ⟨rfl,h⟩:=h;rw [Int.ofNat.inj h]) | (have:=Int.ofNat.inj h.2;rw [h.1,this])
theorem av0 {i:Nat} {o o':ak} {u:Value} (h:oT i o=some u) (h':oT i o'=some u):o=o':=by
 rcases P8 h with ⟨e,xs,rfl,_,h1⟩ | ⟨g,rfl,h1⟩ <;> rcases P8 h' with ⟨e',ft,rfl,_,h2⟩ | ⟨g',rfl,h2⟩
 ·rw [h1] at h2
  simp at h2
  obtain ⟨h3,h4⟩:=h2
  have B0:e=e':=Int.ofNat.inj h3
  rw [B0,h4]
 ·rw [h1] at h2;cases h2
 ·rw [h1] at h2;cases h2
 ·rw [h1] at h2
  simp at h2
  rw [awy h2]
theorem nN.rel {ρ av:aI} {i:Nat} {v v':Value} (h:nN i v=true) (hle:∀k,k<i→∀r,ρ k=some r→av k=some r) (hv:ay ρ v v'):ay av v v':=by
 unfold nN at h
 rw [or_eq_true] at h
 rcases h with h | h
 ·exact Fi.rel h hv
 ·split at h
  ·have hk:=of_decide_eq_true h
   cases hv with
   | slice hr a b c d=>exact .slice (hle _ hk _ hr) a b c d
  ·cases h
theorem lJ.nN {ρ av:aI} {w:World} {r:RI} {o:ak} {i:Nat} (hx:(oT i o).isSome=true) (hle:∀k,k<i→∀r,ρ k=some r→av k=some r) (h:lJ ρ w r o):lJ av w r o:=by
 obtain ⟨u,hu⟩:=Option.isSome_iff_exists.1 hx
 rcases P8 hu with ⟨e,xs,rfl,hx,_⟩ | ⟨g,rfl,_⟩
 ·obtain ⟨h1,h0,c,h2,h3,h4⟩:=h
  refine ⟨h1,h0,c,h2,h3,fun j x hj=>?_⟩
  obtain ⟨c1,y,hy,hr⟩:=h4 j x hj
  exact ⟨c1,y,hy,Go.Sim.nN.rel (hx x (mem_of_getElem? hj)) hle hr⟩
 ·obtain ⟨h0,aH,h1,h2,h3⟩:=h
  exact ⟨h0,aH,h1,h2,fun j b k v hj=>by simp at hj⟩
theorem aX.take {ρ av:aI} {h:ae} {w w':World} {o:ak} {p:Nat} (R:aX P ρ h w) (hp:h[p]?=some o) (hx:(oT p o).isSome=true) (hn:ρ p=Option.none)
  (H':aX P av (h++[o]) w') (T:Tr ρ h w av (h++[o]) w'):aX P (fun k=>if k=p then av h.length else ρ k) h w':=by
 have j5:=(bL hp).1
 have new:(h++[o])[h.length]?=some o:=by simp
 have old:∀k,k<h.length→(h++[o])[k]?=h[k]?:=fun k hk=>getElem?_append_left hk
 have hle:ρ.le fun k=>if k=p then av h.length else ρ k:=by
  intro k r hr
  have:k≠p:=by rintro rfl;rw [hn] at hr;cases hr
  simp [this,hr]
 have mt:∀k,k<h.length→(cC h k↔cC (h++[o]) k):=fun k hk=>by unfold cC;rw [old k hk]
 have E6:∀k,k<h.length→(eW h k↔eW (h++[o]) k):=fun k hk=>by unfold eW;rw [old k hk]
 have back:∀k,k<p→∀r,av k=some r→(fun k=>if k=p then av h.length else ρ k) k=some r:=by
  intro k hk r hr
  have bm:k≠p:=by omega
  simp only [if_neg bm]
  cases hq:ρ k with
  | none=>
   have:=(T.fresh k r hr hq).1
   omega
  | some r'=>
   have:=T.ext k r' hq
   rw [hr] at this
   exact this.symm
 have S0:cC h p↔cC (h++[o]) h.length:=by unfold cC;rw [new,hp]
 have SM:eW h p↔eW (h++[o]) h.length:=by unfold eW;rw [new,hp]
 refine ⟨?_,?_,?_⟩
 ·intro k r hr
  by_cases hk:k=p
  ·subst hk
   simp only [if_true] at hr
   obtain ⟨o',dN,nH⟩:=H'.obj _ r hr
   rw [new] at dN
   cases dN
   exact ⟨_,hp,lJ.nN hx back nH⟩
  ·simp only [if_neg hk] at hr
   obtain ⟨o',dN,nH⟩:=R.obj k r hr
   obtain ⟨o2,EC,RE⟩:=H'.obj k r (T.ext k r hr)
   rw [old k (R.lt hr),dN] at EC
   cases EC
   exact ⟨o',dN,(nH.down T.ext RE).mono hle rfl⟩
 ·intro a b r s ha hb ng hm hl
  by_cases ea:a=p <;> by_cases eb:b=p
  ·omega
  ·subst ea
   simp only [if_true] at ha
   simp only [if_neg eb] at hb
   have uJ:=R.lt hb
   have:=H'.inj h.length b r s ha (T.ext b s hb) ng (S0.1 hm) ((E6 b uJ).1 hl)
   omega
  ·subst eb
   simp only [if_true] at hb
   simp only [if_neg ea] at ha
   have sV:=R.lt ha
   have:=H'.inj a h.length r s (T.ext a r ha) hb ng ((mt a sV).1 hm) (SM.1 hl)
   omega
  ·simp only [if_neg ea] at ha
   simp only [if_neg eb] at hb
   exact H'.inj a b r s (T.ext a r ha) (T.ext b s hb) ng ((mt a (R.lt ha)).1 hm) ((E6 b (R.lt hb)).1 hl)
 ·intro k r hr
  by_cases hk:k=p
  ·subst hk;simp only [if_true] at hr;exact H'.aV _ r hr
  ·simp only [if_neg hk] at hr;exact R.aV k r hr
theorem Tr.take {Bi ρ av:aI} {hb h:ae} {wb w w':World} {o:ak} {p:Nat} (TB:Tr Bi hb wb ρ h w) (hpb:hb.length≤p) (hn:ρ p=Option.none) (T:Tr ρ h w av (h++[o]) w'):
  Tr Bi hb wb (fun k=>if k=p then av h.length else ρ k) h w':=by
 have TT:=TB.trans T
 exact {
  ext:=by
   intro k r hr
   have:=TB.ext k r hr
   have hk:k≠p:=by rintro rfl;rw [hn] at this;cases this
   simp [hk,this]
  len:=TB.len
  jN:=TB.jN
  kinds:=TB.kinds
  fresh:=by
   intro k r hr hZ
   by_cases hk:k=p
   ·subst hk
    simp only [if_true] at hr
    have hbn:Bi h.length=none:=by
     cases hq:Bi h.length with
     | none=>rfl
     | some q=>have:=TB.jN _ _ hq;have:=TB.len;omega
    exact ⟨hpb,(TT.fresh _ r hr hbn).2⟩
   ·simp only [if_neg hk] at hr
    exact TB.fresh k r hr hZ
  iX:=TT.iX
  iC:=TT.iC
  os:=TT.os
  tape:=TT.tape
  output:=TT.output }
theorem BU {l:List cS} {F:Nat→Nat→Value} {H:Nat→ae} {V:Nat→Value} (T:Trace P l 0 F H V) {q:Nat} {d:cS} {a:mT} (hq:l[q]?=some d) (ho:d.op.op=.e (.fl a)) (hg:d.op.guard=none):
  ∃Vf o,lN a (ev (F q))=some (Vf,o)∧V q=Vf (H q).length∧H (q+1)=H q++[o]∧(oT (H q).length o).isSome=true∧er (H (q+1)) (V q)=oT (H q).length o∧
   ∀e' oe,l[e']?=some oe→oe.op.op.dJ=true→q<e'→oe.pre.testBit q=false→er (H (e'+1)) (V q)=oT (H q).length o:=by
 have hw:iW d.op.guard (F (0+q))=true:=by rw [hg];rfl
 have hy:=T.yes q d hq hw
 obtain ⟨u,u1,u2⟩:=T.flo q d a hq ho hw
 simp only [zero_add] at hy u1 u2
 rw [ho] at hy
 simp only [dc,nO,afp] at hy
 cases sV:lN a (ev (F q)) with
 | none=>rw [sV] at hy;exact hy.elim
 | some p=>
  obtain ⟨Vf,o⟩:=p
  rw [sV] at hy
  simp only [map_some] at hy
  obtain ⟨h1,h2⟩:=hy
  have iQ:=OK sV (H q).length
  rw [h1] at iQ
  have Em:er (H (q+1)) (V q)=oT (H q).length o:=by
   unfold er
   rw [iQ,←h2]
   simp
  rw [Em] at u1
  exact ⟨Vf,o,rfl,h1.symm,h2.symm,by rw [u1];rfl,Em,fun e' oe he hE aB hp=>(u2 e' oe he hE aB hp).trans u1.symm⟩
def Nb (l:List cS) (S:List Nat) (m:Nat):Prop:=∀e oe,l[e]?=some oe→oe.op.op.dJ=true→iT oe=false→(e∈S↔e<m)
theorem Ax {o:cS}:iT o=true↔∃a,o.op.op=.e (.fl a):=by
 unfold iT
 constructor
 ·intro h
  split at h
  ·rename_i a ha;exact ⟨a,ha⟩
  ·cases h
 ·rintro ⟨a,ha⟩;rw [ha]
structure Laid (P:Program) (N:Nat) (ops:Array Oper) (l:List cS) (perm:Nat→Nat) (mF:Nat):Prop where
 len:l.length=ops.size
 lt:∀q,q<ops.size→perm q<ops.size
 inj:∀q k,q<ops.size→k<ops.size→perm q=perm k→q=k
 sur:∀j,j<ops.size→∃q,q<ops.size∧perm q=j
 comp:∀q o d,ops[perm q]?=some o→l[q]?=some d→∃x,zm P N ops o=some x∧x.dst=d.op.dst∧x.guard=d.op.guard∧tmpsOf x.op.iA=tmpsOf d.op.op.iA∧((iT d=false∧x.op=d.op.op)∨∃a,x.op=.e a.FW∧d.op.op=.e (.fl a)∧d.op.guard=none)
 pre:∀q d,l[q]?=some d→∀k,k<ops.size→d.pre.testBit k=((jM (ops.toList.map fv) []).getD (perm q) 0).testBit (perm k)
 back:∀j e,e∈(ops.toList.map fv).getD j []→e<j
 AU:∀i j oi oj,l[i]?=some oi→l[j]?=some oj→CL oj j oi i=true
 head:mF≤l.length
 low:∀q d,l[q]?=some d→q<mF→d.op.op.dJ=true→iT d=true
 high:∀q d,l[q]?=some d→mF≤q→iT d=false
theorem ak7 {oi oj:cS} {i j t:Nat} (h:CL oj j oi i=true) (bm:i≠j) (hd:oi.op.dst=some t) (ht:vv oj t=true):(if i<j then oj.pre.testBit i else oi.pre.testBit j)=true:=by
 unfold CL at h
 rw [hd] at h
 simp only [and_eq_true,or_eq_true,beq_iff_eq,ht,Bool.not_true,Bool.false_eq_true,false_or] at h
 rcases h.1 with h | h
 ·exact absurd h bm
 ·exact h
theorem UM {oi oj:cS} {i j:Nat} (h:CL oj j oi i=true) (aB:i<j) (hi:oi.op.op.dJ=true) (hj:oj.op.op.dJ=true) (fi:iT oi=false) (fj:iT oj=false):oj.pre.testBit i=true:=by
 unfold CL at h
 simp only [and_eq_true,aB,decide_true,hi,hj,fi,fj,Bool.and_self,Bool.not_true,Bool.not_false,Bool.false_or] at h
 exact h.2
theorem ya {ops:Array Oper} {l:List cS} {perm:Nat→Nat} {mF:Nat} (L:Laid P N ops l perm mF) (nF:∀(q:Nat) (d:cS),l[q]?=some d→iT d=true→d.op.guard=none) {F:Nat→Nat→Value} {H:Nat→ae} {V:Nat→Value} (T:Trace P l 0 F H V) {k:Nat}:∀(d:Nat),k+d≤mF→∃os,H (k+d)=H k++os
 | 0,_=>⟨[],by simp⟩
 | d+1,hd=>by
  obtain ⟨os,iR⟩:=ya L nF T (k:=k) d (by omega)
  have aB:k+d<l.length:=by have:=L.head;omega
  have bQ:l[k+d]?=some l[k+d]:=getElem?_eq_getElem aB
  rw [show k+(d+1)=k+d+1 by omega]
  cases hE:l[k+d].op.op.dJ with
  | true=>
   have hf:=L.low (k+d) _ bQ (by omega) hE
   obtain ⟨a,ha⟩:=Ax.1 hf
   obtain ⟨_,oo,_,_,h3,_⟩:=BU T bQ ha (nF _ _ bQ hf)
   exact ⟨os++[oo],by rw [h3,iR];simp⟩
  | false=>
   have:=Mr T (i:=k+d) 1 (by omega) (fun e oe h1 h2 h3=>by
    have:e=k+d:=by omega
    subst this
    rw [bQ] at h1
    cases h1
    rw [hE] at h2
    cases h2)
   exact ⟨os,by rw [this,iR]⟩
theorem au9 {ops:Array Oper} {l:List cS} {perm:Nat→Nat} {mF:Nat} (L:Laid P N ops l perm mF) (nF:∀(q:Nat) (d:cS),l[q]?=some d→iT d=true→d.op.guard=none) {F:Nat→Nat→Value} {H:Nat→ae} {V:Nat→Value} (T:Trace P l 0 F H V)
  {Bi:aI} {wb:World} {S r:List Nat} (hv:yX ops S r):
  Di (ops.toList.map fv) S→(∀i∈S,i<ops.size)→∀Sp,(∀q,q∈Sp↔q<ops.size∧perm q∈S)→∀m,mF≤m→m≤l.length→Nb l Sp m→∀S' B ρ a w,ep P N B ρ (eB V Sp l 0 (F 0)) (H m) a w→(H mF).length≤(H m).length→
   (∀(q:Nat) (d:cS),l[q]?=some d→iT d=true→q∉Sp→ρ (H q).length=none∧er (H m) (V q)=er (H (q+1)) (V q))→Tr Bi (H 0) wb ρ (H m) w→∀Q:Exit→Act→World→Prop,
   (∀av a' w',ep P N B av (F l.length) (H l.length) a' w'→Tr Bi (H 0) wb av (H l.length) w'→Q .normal a' w')→wpOpsIn (FR S') 0 P ops Q r a w:=by
 induction hv with
 | nil fh=>
  rename_i S
  intro fO aB Sp B2 m Ex hm b7 S' B ρ a w R _ _ TB Q hq
  have eC:∀q,q<l.length→q∈Sp:=fun q hq=>(B2 q).2 ⟨by rw [←L.len];exact hq,fh _ (L.lt q (by rw [←L.len];exact hq))⟩
  have hF:eB V Sp l 0 (F 0)=F l.length:=by
   have h1:=Eb T l 0 (List.range l.length) l.length (fun k=>by simp) (fun k=>by simp) (by omega) (by omega)
   rw [←h1]
   funext t
   refine xQ (fun k d hk _=>?_) rfl
   have ie:=(bL hk).1
   simp only [zero_add,mem_range]
   exact ⟨fun _=>ie,fun _=>eC k ie⟩
  have hH:H l.length=H m:=by
   refine rA T hm (le_refl _) ?_
   rintro e oe he hE ⟨h1,h2⟩
   have:=(b7 e oe he hE (L.high e oe he (by omega))).1 (eC e h2)
   omega
  rw [hF] at R
  simp only [wpOpsIn]
  exact hq ρ a w (by rw [hH];exact R) (by rw [hH];exact TB)
 | cons wz wu zR hvr ih=>
  rename_i S j0 o r
  intro fO aB Sp B2 m Ex hm b7 S' B ρ a w R hlen tc TB Q hq
  have aes:j0<ops.size:=(Array.getElem?_eq_some_iff.1 wz).1
  obtain ⟨j,wm,nG⟩:=L.sur j0 aes
  have m9:j<l.length:=by rw [L.len];exact wm
  have bQ:l[j]?=some (l[j]'m9):=getElem?_eq_getElem _
  generalize I6:l[j]'m9=d at bQ
  obtain ⟨x,hc,x1,x2,x3,x4⟩:=L.comp j o d (by rw [nG];exact wz) bQ
  obtain ⟨q1,q2,q3,q4,q5⟩:=DR hc
  rw [x2] at q4
  rw [x1] at q5
  have Rn:j∉Sp:=fun h=>wu (by rw [←nG];exact ((B2 j).1 h).2)
  have jq:(ops.toList.map fv).getD j0 []=fv o:=by
   simp [getD,wz]
  have uK:Di (ops.toList.map fv) (j0::S):=by
   intro k e hk he
   rcases mem_cons.1 hk with rfl | hk
   ·rw [jq] at he
    exact mem_cons_of_mem _ (zR e he)
   ·exact mem_cons_of_mem _ (fO k e hk he)
  have Ei:∀q,q∈j::Sp↔q<ops.size∧perm q∈j0::S:=by
   intro q
   rw [mem_cons,mem_cons,B2]
   constructor
   ·rintro (rfl | ⟨h1,h2⟩)
    ·exact ⟨wm,.inl nG⟩
    ·exact ⟨h1,.inr h2⟩
   ·rintro ⟨h1,h2 | h2⟩
    ·exact .inl (L.inj q j h1 wm (h2.trans nG.symm))
    ·exact .inr ⟨h1,h2⟩
  have before:∀i,i<ops.size→d.pre.testBit i=true→i∈Sp:=by
   intro i hi hb
   rw [L.pre j d bQ i hi,nG] at hb
   exact (B2 i).2 ⟨hi,KZ fO L.back j0 (perm i) (by rw [jq];exact zR) hb⟩
  have behind:∀k dk,l[k]?=some dk→dk.pre.testBit j=true→k∉Sp:=by
   intro k dk hk hb Ew
   have hkn:k<ops.size:=by rw [←L.len];exact (bL hk).1
   rw [L.pre k dk hk j wm,nG] at hb
   have axi:=((B2 k).1 Ew).2
   exact wu (KZ fO L.back (perm k) j0 (fun e he=>fO (perm k) e axi he) hb)
  have j6:∀{k dk},l[k]?=some dk→k<ops.size:=fun hk=>by rw [←L.len];exact (bL hk).1
  have slot:∀t,vv d t=true→eB V Sp l 0 (F 0) t=F j t:=by
   intro t ht
   have h1:=Eb T l 0 (List.range j) j (fun k=>by simp) (fun k=>by simp) (by omega) (by omega)
   rw [←h1]
   refine xQ (fun k dk hk zQ=>?_) rfl
   simp only [zero_add,mem_range]
   by_cases rQ:k=j
   ·subst rQ
    exact ⟨fun h=>absurd h Rn,fun h=>absurd h (Nat.lt_irrefl _)⟩
   ·have hp:=ak7 (L.AU k j dk d hk bQ) rQ zQ ht
    by_cases nf:k<j
    ·rw [if_pos nf] at hp
     exact ⟨fun _=>nf,fun _=>before k (j6 hk) hp⟩
    ·rw [if_neg nf] at hp
     exact ⟨fun h=>absurd h (behind k dk hk hp),fun h=>absurd h nf⟩
  have Af:∀t∈d.op.reads,eB V Sp l 0 (F 0) t=F j t:=fun t ht=>slot t (by simp [vv,ht])
  have Cf:∀t∈tmpsOf d.op.op.iA,eB V Sp l 0 (F 0) t=F j t:=fun t ht=>Af t (by simp [iZ.reads,ht])
  have EP:iW d.op.guard (eB V Sp l 0 (F 0))=iW d.op.guard (F j):=by
   cases hg:d.op.guard with
   | none=>rfl
   | some sb=>
    obtain ⟨s,b⟩:=sb
    simp only [iW]
    rw [Af s (by simp [iZ.reads,hg])]
  have Q4:sU d.op.guard (eB V Sp l 0 (F 0)):=by
   have:=T.QD j d bQ
   simp only [zero_add] at this
   cases hg:d.op.guard with
   | none=>trivial
   | some sb=>
    obtain ⟨s,b⟩:=sb
    rw [hg] at this
    simp only [sU] at this⊢
    rw [Af s (by simp [iZ.reads,hg])]
    exact this
  have ER:=F3 q4 R Q4
  have jw:eB V (j::Sp) l 0 (F 0)=dK (eB V Sp l 0 (F 0)) o.dst (V j):=by
   rw [←q5]
   funext t
   by_cases oV:d.op.dst=some t
   ·have h1:=Qp (V:=V) (S:=j::Sp) (l:=l) (i:=0) (f:=F 0) (k:=j) (d:=d) bQ oV (by simp) (by
     intro k' d' cW om nf
     have hp:=ak7 (L.AU k' j d' d cW bQ) (by omega) om (by simp [vv,oV])
     rw [if_neg (by omega)] at hp
     have:=behind k' d' cW hp
     simp only [zero_add,mem_cons,not_or]
     exact ⟨by omega,this⟩)
    rw [h1]
    simp [oV,dK,tV]
   ·have h1:eB V (j::Sp) l 0 (F 0) t=eB V Sp l 0 (F 0) t:=by
     refine xQ (fun k dk hk zQ=>?_) rfl
     have rQ:k≠j:=by
      rintro rfl
      rw [bQ] at hk
      cases hk
      exact oV zQ
     simp [rQ]
    rw [h1]
    cases xY:d.op.dst with
    | none=>rfl
    | some y=>
     have:t≠y:=by rintro rfl;exact oV xY
     simp [dK,tV,this]
  have kr:∀i∈j0::S,i<ops.size:=by
   intro i hi
   rcases mem_cons.1 hi with rfl | hi
   ·exact aes
   ·exact aB i hi
  -- aF4 still to auR stay vO aGE are
  have FK:∀q dq,l[q]?=some dq→iT dq=true→q<mF:=by
   intro q dq hq hf
   apply byContradiction
   intro h
   rw [L.high q dq hq (by omega)] at hf
   cases hf
  have aDw:∀q dq,l[q]?=some dq→iT dq=true→(H q).length<(H mF).length:=by
   intro q dq hq hf
   have hqm:=FK q dq hq hf
   obtain ⟨a,ha⟩:=Ax.1 hf
   obtain ⟨_,oo,_,_,h3,_⟩:=BU T hq ha (nF _ _ hq hf)
   obtain ⟨os,iR⟩:=ya L nF T (k:=q+1) (mF-(q+1)) (by omega)
   rw [show q+1+(mF-(q+1))=mF by omega,h3] at iR
   rw [iR]
   simp
  have afK:∀{av:aI} {h':ae} {w':World},Tr ρ (H m) w av h' w'→∀q dq,l[q]?=some dq→iT dq=true→ρ (H q).length=none→av (H q).length=none:=by
   intro av h' w' TT q dq hq hf hn
   cases hr:av (H q).length with
   | none=>rfl
   | some s=>
    have:=(TT.fresh _ s hr hn).1
    have:=aDw q dq hq hf
    omega
  -- gv FP,where gv az1 writes memory
  have FQ:d.op.op.dJ=true→iT d=false→mF≤j∧H m=H j∧Nb l (j::Sp) (j+1):=by
   intro hE rS
   have Et:mF≤j:=by
    apply byContradiction
    intro h
    rw [L.low j d bQ (by omega) hE] at rS
    cases rS
   have qJ:m≤j:=by
    apply byContradiction
    intro h
    exact Rn ((b7 j d bQ hE rS).2 (by omega))
   refine ⟨Et,?_,?_⟩
   ·refine (rA T qJ (by omega) ?_).symm
    rintro e oe he mB ⟨h1,h2⟩
    have wj:=L.high e oe he (by omega)
    have hb:=UM (L.AU e j oe d he bQ) h2 mB hE wj rS
    have:=(b7 e oe he mB wj).1 (before e (j6 he) hb)
    omega
   ·intro e oe he mB wj
    rcases Nat.lt_trichotomy e j with nf | rfl | uN
    ·have hb:=UM (L.AU e j oe d he bQ) nf mB hE wj rS
     exact ⟨fun _=>by omega,fun _=>mem_cons_of_mem _ (before e (j6 he) hb)⟩
    ·exact ⟨fun _=>by omega,fun _=>by simp⟩
    ·have hb:=UM (L.AU j e d oe bQ he) uN hE mB rS wj
     have:=behind e oe he hb
     constructor
     ·intro h
      rcases mem_cons.1 h with h | h
      ·omega
      ·exact absurd h this
     ·intro h;omega
  have CQ:(d.op.op.dJ=false∨iT d=true)→Nb l (j::Sp) m:=by
   intro hE e oe he mB wj
   have bm:e≠j:=by
    rintro rfl
    rw [bQ] at he
    cases he
    rcases hE with hE | hE
    ·rw [hE] at mB;cases mB
    ·rw [hE] at wj;cases wj
   rw [←b7 e oe he mB wj]
   simp [bm]
  have ET:=T.yes j d bQ
  have dB:=T.no j d bQ
  simp only [zero_add] at ET dB
  simp only [wpOpsIn,wz]
  by_cases hw:iW d.op.guard (F j)=true
  ·rw [if_pos (by rw [ER,EP,hw])]
   have hs:=ET hw
   rcases x4 with ⟨rS,Wt⟩ | ⟨aa,Wt,P0,dg⟩
   ·rw [Wt] at q3
    by_cases hE:d.op.op.dJ=true
    ·obtain ⟨e0,e1,e2⟩:=FQ hE rS
     rw [←Lx Cf,←e1] at hs
     obtain ⟨v,h',st,hv,hh⟩:=AR (N:=N) q3 q1 hs
     subst hv
     subst hh
     refine st S' B ρ a w R _ _ ?_
     intro av v' w' wG HH TT
     have R':=R.vh q2 TT wG HH
     rw [←jw] at R'
     refine ih uK kr (j::Sp) Ei (j+1) (by omega) (by omega) e2 S' B av _ w' R' (Nat.le_trans hlen TT.len) ?_ (TB.trans TT) Q hq
     intro q dq gL hf qM
     have hqS:q∉Sp:=fun h=>qM (mem_cons_of_mem _ h)
     obtain ⟨i1,i2⟩:=tc q dq gL hf hqS
     refine ⟨afK TT q dq gL hf i1,?_⟩
     obtain ⟨a',nE⟩:=Ax.1 hf
     obtain ⟨_,oo,_,_,_,_,h5,h6⟩:=BU T gL nE (nF _ _ gL hf)
     rw [h5]
     refine h6 j d bQ hE (by have:=FK q dq gL hf;omega) ?_
     cases hb:d.pre.testBit q with
     | false=>rfl
     | true=>exact absurd (before q (j6 gL) hb) hqS
    ·have fN:d.op.op.dJ=false:=by simpa using hE
     -- vB is looked at has one value at this FP and in gv aGr order
     have dT:dc P d.op.op (eB V Sp l 0 (F 0)) (H m) fun v h'=>v=V j∧h'=H m:=by
      rw [Lx Cf]
      cases cY:d.op.op with
      | p po=>
       rw [cY] at hs
       simp only [dc,fE] at hs⊢
       split at hs
       ·exact ⟨hs.1,trivial⟩
       ·exact hs.elim
      | l lo=>
       have Cn:fD lo (ev (F j)) (H j)=some (V j):=by
        rw [cY] at hs
        simp only [dc,fE] at hs
        split at hs
        ·rename_i v hv
         rw [hv,hs.1]
        ·exact hs.elim
       -- from a place at or behind gv head,to a FP before it
       have down:mF≤j→m≤j→fD lo (ev (F j)) (H m)=some (V j):=by
        intro Et qJ
        by_cases hex:∃e oe,l[e]?=some oe∧oe.op.op.dJ=true∧m≤e∧e<j
        ·have key:∀n,(∃e oe,l[e]?=some oe∧oe.op.op.dJ=true∧m≤e∧e<j∧e<n)→∃e oe,l[e]?=some oe∧oe.op.op.dJ=true∧m≤e∧e<j∧∀e' ju,l[e']?=some ju→ju.op.op.dJ=true→¬(m≤e'∧e'<e):=by
          intro n
          induction n with
          | zero=>rintro ⟨e,oe,_,_,_,_,h⟩;omega
          | succ n tC=>
           rintro ⟨e,oe,h1,h2,h3,h4,h5⟩
           by_cases eD:∃e oe,l[e]?=some oe∧oe.op.op.dJ=true∧m≤e∧e<j∧e<n
           ·exact tC eD
           ·refine ⟨e,oe,h1,h2,h3,h4,?_⟩
            rintro e' ju k1 k2 ⟨k3,k4⟩
            exact eD ⟨e',ju,k1,k2,k3,by omega,by omega⟩
         obtain ⟨e0,AQ,g1,g2,g3,g4⟩:=hex
         obtain ⟨e,oe,h1,h2,h3,h4,h5⟩:=key j ⟨e0,AQ,g1,g2,g3,g4,g4⟩
         have zB:H e=H m:=rA T h3 (by omega) (fun e' ju k1 k2 k3=>h5 e' ju k1 k2 k3)
         rw [←zB]
         have tj:d.pre.testBit e=false:=by
          cases hb:d.pre.testBit e with
          | false=>rfl
          | true=>
           have:=(b7 e oe h1 h2 (L.high e oe h1 (by omega))).1 (before e (j6 h1) hb)
           omega
         have:=T.UU e oe j d lo h1 h2 bQ cY (by simpa using hw) h4 (by simpa using tj)
         simpa using this
        ·have zC:H j=H m:=rA T qJ (by omega) (fun e oe h1 h2 h3=>hex ⟨e,oe,h1,h2,h3⟩)
         rw [←zC]
         exact Cn
       -- to a FP behind it,from where gv value is known
       have up:∀b,j≤b→mF≤b→b≤m→fD lo (ev (F j)) (H b)=some (V j)→fD lo (ev (F j)) (H m)=some (V j):=by
        intro b hjb hbF B6 hbv
        by_cases hex:∃e oe,l[e]?=some oe∧oe.op.op.dJ=true∧b≤e∧e<m
        ·have key:∀n,(∃e oe,l[e]?=some oe∧oe.op.op.dJ=true∧b≤e∧e<m∧m≤e+n)→∃e oe,l[e]?=some oe∧oe.op.op.dJ=true∧b≤e∧e<m∧∀e' ju,l[e']?=some ju→ju.op.op.dJ=true→¬(e+1≤e'∧e'<m):=by
          intro n
          induction n with
          | zero=>rintro ⟨e,oe,_,_,_,_,h⟩;omega
          | succ n tC=>
           rintro ⟨e,oe,h1,h2,h3,h4,h5⟩
           by_cases eD:∃e oe,l[e]?=some oe∧oe.op.op.dJ=true∧b≤e∧e<m∧m≤e+n
           ·exact tC eD
           ·refine ⟨e,oe,h1,h2,h3,h4,?_⟩
            rintro e' ju k1 k2 ⟨k3,k4⟩
            exact eD ⟨e',ju,k1,k2,by omega,by omega,by omega⟩
         obtain ⟨e0,AQ,g1,g2,g3,g4⟩:=hex
         obtain ⟨e,oe,h1,h2,h3,h4,h5⟩:=key m ⟨e0,AQ,g1,g2,g3,g4,by omega⟩
         have bm:e≠j:=by
          rintro rfl
          rw [bQ] at h1
          cases h1
          rw [fN] at h2
          cases h2
         have zB:H m=H (e+1):=rA T (by omega) hm (fun e' ju k1 k2 k3=>h5 e' ju k1 k2 k3)
         rw [zB]
         have tj:oe.pre.testBit j=false:=by
          cases hb:oe.pre.testBit j with
          | false=>rfl
          | true=>exact absurd ((b7 e oe h1 h2 (L.high e oe h1 (by omega))).2 h4) (behind e oe h1 hb)
         have:=T.Qq j d lo e oe bQ cY (by simpa using hw) h1 h2 (by omega) (by simpa using tj)
         simpa using this
        ·have zC:H m=H b:=rA T B6 hm (fun e oe h1 h2 h3=>hex ⟨e,oe,h1,h2,h3⟩)
         rw [zC]
         exact hbv
       have ca:fD lo (ev (F j)) (H m)=some (V j):=by
        by_cases Et:mF≤j
        ·rcases Nat.le_total m j with qJ | qJ
         ·exact down Et qJ
         ·exact up j (le_refl _) Et qJ Cn
        ·obtain ⟨os,iR⟩:=ya L nF T (k:=j) (mF-j) (by omega)
         rw [show j+(mF-j)=mF by omega] at iR
         refine up mF (by omega) (le_refl _) Ex ?_
         rw [iR]
         exact ayl os Cn
       simp [dc,fE,ca]
      | e eo=>rw [cY] at fN;cases fN
      | call g args=>rw [cY] at fN;cases fN
      | lh x args=>rw [cY] at fN;cases fN
     obtain ⟨v,h',st,hv,hh⟩:=AR (N:=N) q3 q1 dT
     subst hv
     subst hh
     refine st S' B ρ a w R _ _ ?_
     intro av v' w' wG HH TT
     have R':=R.vh q2 TT wG HH
     rw [←jw] at R'
     refine ih uK kr (j::Sp) Ei m Ex hm (CQ (.inl fN)) S' B av _ w' R' hlen ?_ (TB.trans TT) Q hq
     intro q dq gL hf qM
     obtain ⟨i1,i2⟩:=tc q dq gL hf (fun h=>qM (mem_cons_of_mem _ h))
     exact ⟨afK TT q dq gL hf i1,i2⟩
   ·-- a new azS
    have hf:iT d=true:=Ax.2 ⟨aa,P0⟩
    obtain ⟨Vf,oo,h1,h2,h3,h4,h5,h6⟩:=BU T bQ P0 dg
    obtain ⟨i1,i2⟩:=tc j d bQ hf Rn
    have sV:lN aa (ev (eB V Sp l 0 (F 0)))=some (Vf,oo):=by
     rw [←h1]
     refine aq5 (Qb fun t ht=>Cf t ?_)
     rw [P0]
     exact ht
    have iQ:=OK h1 (H j).length
    rw [←h2] at iQ
    have axq:(H m)[(H j).length]?=some oo:=by
     rw [h5] at i2
     unfold er at i2
     rw [iQ] at i2
     simp only [bind_some] at i2
     cases ho:(H m)[(H j).length]? with
     | none=>
      rw [ho] at i2
      obtain ⟨u,hu⟩:=Option.isSome_iff_exists.1 h4
      rw [hu] at i2
      cases i2
     | some o'=>
      rw [ho] at i2
      obtain ⟨u,Em⟩:=Option.isSome_iff_exists.1 h4
      simp only [bind_some] at i2
      rw [av0 (i2.trans Em) Em]
    have ax1:dc P x.op (eB V Sp l 0 (F 0)) (H m) fun v h'=>v=Vf (H m).length∧h'=H m++[oo]:=by
     rw [Wt]
     simp only [dc,nO,ayk,afp,sV,map_some]
     exact ⟨trivial,trivial⟩
    obtain ⟨v,h',st,hv,hh⟩:=AR (N:=N) q3 q1 ax1
    subst hv
    subst hh
    refine st S' B ρ a w R _ _ ?_
    intro av v' w' wG HH TT
    have HR:=R.heap.take axq h4 i1 HH TT
    have hle:ρ.le fun k=>if k=(H j).length then av (H m).length else ρ k:=by
     intro k s hk
     have:k≠(H j).length:=by rintro rfl;rw [i1] at hk;cases hk
     simp [this,hk]
    have R1:ep P N B (fun k=>if k=(H j).length then av (H m).length else ρ k) (eB V Sp l 0 (F 0)) (H m) a w':=⟨R.size,marks.tr R.heap TT R.defers,fun t=>(R.tmp t).mono hle,HR⟩
    have Ak:ay (fun k=>if k=(H j).length then av (H m).length else ρ k) (V j) v':=by
     rw [h2]
     exact aq6 h1 (by simp) wG
    have R':=R1.vh q2 (Tr.refl HR) Ak HR
    rw [←jw] at R'
    have hjb:(H 0).length≤(H j).length:=by
     obtain ⟨os,iR⟩:=ya L nF T (k:=0) j (by have:=FK j d bQ hf;omega)
     rw [zero_add] at iR
     rw [iR];simp
    refine ih uK kr (j::Sp) Ei m Ex hm (CQ (.inr hf)) S' B _ _ w' R' hlen ?_ (TB.take hjb i1 TT) Q hq
    intro q dq gL Q1 qM
    have hqj:q≠j:=fun h=>qM (by simp [h])
    obtain ⟨k1,k2⟩:=tc q dq gL Q1 (fun h=>qM (mem_cons_of_mem _ h))
    refine ⟨?_,k2⟩
    have bm:(H q).length≠(H j).length:=by
     have grow:∀{a b:Nat} {da:cS},l[a]?=some da→iT da=true→a<b→b<mF→(H a).length<(H b).length:=by
      intro a b da ha hfa gn hb
      obtain ⟨a',nE⟩:=Ax.1 hfa
      obtain ⟨_,oo',_,_,g3,_⟩:=BU T ha nE (nF _ _ ha hfa)
      obtain ⟨os,iR⟩:=ya L nF T (k:=a+1) (b-(a+1)) (by omega)
      rw [show a+1+(b-(a+1))=b by omega,g3] at iR
      rw [iR]
      simp
     rcases Nat.lt_or_gt_of_ne hqj with h | h
     ·have:=grow gL Q1 h (FK j d bQ hf);omega
     ·have:=grow bQ hf h (FK q dq gL Q1);omega
    simp [bm,k1]
  ·have wH:iW d.op.guard (F j)=false:=by simpa using hw
   rw [if_neg (by rw [ER,EP,wH];simp)]
   obtain ⟨n1,n2⟩:=dB wH
   have R':=R.vh q2 (Tr.refl R.heap) (ay.undef _) R.heap
   rw [n1] at jw
   rw [←jw] at R'
   have rS:iT d=false:=by
    cases hf:iT d with
    | false=>rfl
    | true=>rw [nF j d bQ hf] at wH;cases wH
   by_cases hE:d.op.op.dJ=true
   ·obtain ⟨e0,e1,e2⟩:=FQ hE rS
    have e3:H (j+1)=H m:=by rw [n2,e1]
    refine ⟨fun _ _=>trivial,ih uK kr (j::Sp) Ei (j+1) (by omega) (by omega) e2 S' B ρ _ w (by rw [e3];exact R') (by rw [e3];exact hlen) ?_ (by rw [e3];exact TB) Q hq⟩
    intro q dq gL hf qM
    rw [e3]
    exact tc q dq gL hf (fun h=>qM (mem_cons_of_mem _ h))
   ·exact ⟨fun _ _=>trivial,ih uK kr (j::Sp) Ei m Ex hm (CQ (.inl (by simpa using hE))) S' B ρ _ w R' hlen (fun q dq gL hf qM=>tc q dq gL hf (fun h=>qM (mem_cons_of_mem _ h))) TB Q hq⟩
end
end
section
section
variable {P : Program} {N : Nat}
theorem auT {op:Op} {a:mT} (h:iN P op=some (.fl a)):False:=by
 unfold iN at h
 split at h
 all_goals repeat' (split at h)
 all_goals first | (cases h;done) | (simp at h;done) | (simp only [map_eq_some_iff] at h;obtain ⟨_,_,h⟩:=h;cases h;done)
theorem auV {op:Op} {a:mT} (h:vS P op=some (.e (.fl a))):False:=by
 rcases PW h with ⟨po,e,_⟩ | ⟨lo,e,_⟩ | ⟨eo,e,he⟩ | ⟨g,args,at_,_,_,e⟩ | ⟨x,args,at_,_,e⟩
 ·cases e
 ·cases e
 ·cases e;exact auT he
 ·cases e
 ·cases e
theorem acT:∀{l:List Nat},Iw l=true→l.Nodup
 | [],_=>.nil
 | x::xs,h=>by
  simp only [Iw,and_eq_true] at h
  rw [nodup_cons]
  exact ⟨by simpa using h.1,acT h.2⟩
theorem afT {l:List cS} {fl:List Nat} {p0:List Nat}:∀{perm:List Nat},(∀i∈perm,i<l.length)→∀q:Nat,
  (perm.filterMap fun i=>(l[i]?).map fun o=>(⟨if fl.contains i then D9 o.op else o.op,J5 o.pre p0 0⟩:cS))[q]?=(perm[q]?).bind fun i=>(l[i]?).map fun o=>⟨if fl.contains i then D9 o.op else o.op,J5 o.pre p0 0⟩
 | [],_,q=>by simp
 | i::perm,h,q=>by
  have b6:i<l.length:=h i (by simp)
  have hi:l[i]?=some l[i]:=getElem?_eq_getElem b6
  rw [List.filterMap_cons,hi]
  simp only [map_some]
  cases q with
  | zero=>simp [hi]
  | succ q=>
   rw [List.getElem?_cons_succ,List.getElem?_cons_succ]
   exact afT (fun i hi=>h i (by simp [hi])) q
theorem auU {ops:Array Oper} {l:List cS} {perm:List Nat} (hc:Ip P N ops=some (l,perm)):P.follows .mixedOrders=true∧zf ops.toList 0=true∧Laid P N ops l (fun q=>perm.getD q 0) (uM l)∧∀(q:Nat) (d:cS),l[q]?=some d→iT d=true→d.op.guard=none:=by
 unfold Ip at hc
 split at hc
 ·rename_i ios Ra
  simp only at hc
  split at hc
  ·rename_i sZ
   simp only [Option.some.injEq,Prod.mk.injEq] at hc
   obtain ⟨hl,hp⟩:=hc
   rw [hp] at hl sZ
   rw [hl] at sZ
   simp only [and_eq_true] at sZ
   obtain ⟨⟨Ey,sX⟩,aC⟩:=sZ
   obtain ⟨g1,g2⟩:=PV Ra
   have j5:(jM (ops.toList.map fv) []).length=ops.size:=by rw [Ii];simp
   have Rg:ios.length≤(jM (ops.toList.map fv) []).length:=by rw [Ii];simp [g1]
   obtain ⟨z1,z2⟩:=Wx Rg
   have hz:(oM ios (jM (ops.toList.map fv) [])).length=ops.size:=by rw [z1,g1];simp
   unfold okF at aC
   simp only [and_eq_true,beq_iff_eq] at aC
   obtain ⟨⟨⟨⟨⟨⟨⟨o1,o2⟩,o3⟩,o4⟩,o5⟩,o6⟩,o7⟩,o8⟩:=aC
   rw [j5] at o1 o2 o4 o7
   rw [all_eq_true] at o4 o5 o6 o7 o8
   have aB:∀i∈perm,i<ops.size:=fun i hi=>by simpa using o4 i hi
   have bQ:∀q,q<ops.size→perm.getD q 0∈perm:=by
    intro q hq
    have:q<perm.length:=by omega
    rw [List.getD_eq_getElem?_getD,getElem?_eq_getElem this]
    exact List.getElem_mem this
   have oZ:=acT o3
   have inj:∀q k,q<ops.size→k<ops.size→perm.getD q 0=perm.getD k 0→q=k:=by
    intro q k hq hk he
    have gL:q<perm.length:=by omega
    have cW:k<perm.length:=by omega
    rw [List.getD_eq_getElem?_getD,List.getD_eq_getElem?_getD,getElem?_eq_getElem gL,getElem?_eq_getElem cW] at he
    simp only [getD_some] at he
    have hp:=List.pairwise_iff_getElem.1 oZ
    rcases Nat.lt_trichotomy q k with h | h | h
    ·exact absurd he (hp q k gL cW h)
    ·exact h
    ·exact absurd he.symm (hp k q cW gL h)
   have mem:∀{q d},l[q]?=some d→(d,q)∈l.zipIdx:=fun h=>List.mem_zipIdx_iff_getElem?.2 h
   refine ⟨Ey,sX,⟨o1,fun q hq=>aB _ (bQ q hq),inj,?_,?_,?_,?_,?_,Nat.sub_le _ _,?_,?_⟩,?_⟩
   ·intro j hj
    have rR:j∈perm:=by
     apply byContradiction
     intro dB
     have rW:perm ⊆ (List.range ops.size).erase j:=by
      intro x hx
      have R6:x≠j:=by rintro rfl;exact dB hx
      rw [List.mem_erase_of_ne R6]
      exact mem_range.2 (aB x hx)
     have:=Ke oZ rW
     rw [List.length_erase_of_mem (mem_range.2 hj),List.length_range] at this
     omega
    obtain ⟨q,hq,e⟩:=List.mem_iff_getElem.1 rR
    exact ⟨q,by omega,by rw [List.getD_eq_getElem?_getD,getElem?_eq_getElem hq,getD_some,e]⟩
   ·intro q o d ho hd
    have qM:q<ops.size:=by rw [←o1];exact (bL hd).1
    have gL:q<perm.length:=by omega
    have th:=afT (l:=oM ios (jM (ops.toList.map fv) [])) (fl:=Qm (oM ios (jM (ops.toList.map fv) []))) (p0:=perm) (perm:=perm) (fun i hi=>by rw [hz];exact aB i hi) q
    have oX:=hl
    unfold afS at oX
    rw [oX,hd] at th
    rw [getElem?_eq_getElem gL] at th
    simp only [bind_some] at th
    have Jw:perm.getD q 0=perm[q]:=by rw [List.getD_eq_getElem?_getD,getElem?_eq_getElem gL];rfl
    rw [Jw] at ho
    cases R7:(oM ios (jM (ops.toList.map fv) []))[perm[q]]? with
    | none=>rw [R7] at th;cases th
    | some dz=>
     rw [R7] at th
     simp only [map_some,Option.some.injEq] at th
     have hx:=(z2 _ _ R7).1
     have m8:=g2 _ o dz.op (by simpa using ho) hx
     obtain ⟨c1,c2,c3,c4,c5⟩:=DR m8
     have azL:∀a,dz.op.op≠ .e (.fl a):=by
      intro a e
      rw [e] at c3
      exact auV c3
     refine ⟨dz.op,m8,?_⟩
     have plain:d.op=dz.op→dz.op.dst=d.op.dst∧dz.op.guard=d.op.guard∧tmpsOf dz.op.op.iA=tmpsOf d.op.op.iA∧((iT d=false∧dz.op.op=d.op.op)∨∃a,dz.op.op=.e a.FW∧d.op.op=.e (.fl a)∧d.op.guard=none):=by
      intro e
      refine ⟨by rw [e],by rw [e],by rw [e],.inl ⟨?_,by rw [e]⟩⟩
      cases hf:iT d with
      | false=>rfl
      | true=>
       obtain ⟨a,ha⟩:=Ax.1 hf
       rw [e] at ha
       exact absurd ha (azL a)
     by_cases tc:(Qm (oM ios (jM (ops.toList.map fv) []))).contains perm[q]=true
     ·rw [if_pos tc] at th
      have uL:d.op=D9 dz.op:=by rw [th]
      unfold D9 at uL
      split at uL
      ·rename_i eo he hg
       split at uL
       ·rename_i a ha
        refine ⟨by rw [uL],by rw [uL,hg],?_,.inr ⟨a,by rw [he,ane ha],by rw [uL],by rw [uL]⟩⟩
        rw [uL,he,←ane ha]
        cases a <;> rfl
       ·exact plain uL
      ·exact plain uL
     ·rw [if_neg tc] at th
      exact plain (by rw [th])
   ·intro q d hd k hk
    have h1:=o7 (d,q) (mem hd)
    rw [all_eq_true] at h1
    have:=h1 k (mem_range.2 hk)
    simpa using this
   ·intro j e he
    by_cases hj:j<ops.size
    ·have hg:ops.toList[j]?=some ops[j]:=by simp [hj]
     have:(ops.toList.map fv).getD j []=fv ops[j]:=by simp [getD,hj]
     rw [this] at he
     have:=GX sX j ops[j] hg e he
     omega
    ·have:(ops.toList.map fv).getD j []=[]:=by simp [getD,le_of_not_lt hj]
     rw [this] at he
     simp at he
   ·intro i j oi oj hi hj
    have h1:=o5 (oj,j) (mem hj)
    rw [all_eq_true] at h1
    exact h1 (oi,i) (mem hi)
   ·intro q d hd hq hE
    have h1:=o6 (d,q) (mem hd)
    simp only at h1
    rw [if_pos hq,hE] at h1
    simpa using h1
   ·intro q d hd hq
    have h1:=o6 (d,q) (mem hd)
    simp only at h1
    rw [if_neg (by omega)] at h1
    simpa using h1
   ·intro q d hd hf
    have h1:=o8 (d,q) (mem hd)
    simp only [hf,Bool.not_true,Bool.false_or,Option.isNone_iff_eq_none] at h1
    exact h1
  ·cases hc
 ·cases hc
theorem aye {out:Bool} {id:Nat} {ops:Array Oper} {l:List cS} {perm:List Nat} {K:(Nat→Value)→ae→Prop} {f:Nat→Value} {h:ae} (hc:Ip P N ops=some (l,perm)) (hi:lF P l 0 [] [] K f h):
  ∃f' h',gT P N out (.region id ops true) f h .normal f' h'∧K f' h':=by
 obtain ⟨Ey,sX,L,nF⟩:=auU hc
 obtain ⟨F,H,V,f1,f2,f3,T,_,_⟩:=Sh hi
 simp only [zero_add] at f3
 refine ⟨F l.length,H l.length,?_,f3⟩
 intro S hS B ρ a w R
 refine wpIn_region_draw ?_
 intro t
 have RN:Region.schedule (P.follows .mixedOrders) ops t=Region.linearise .any ops t:=by
  unfold Region.schedule
  rw [Ey]
  simp
 rw [RN]
 have ca:=afZ sX t
 have EA:∀(l:List cS) (i:Nat) (f:Nat→Value),eB V [] l i f=f:=by
  intro l
  induction l with
  | nil=>intro i f;rfl
  | cons a l ih=>intro i f;simp [eB,ih]
 obtain ⟨os,iR⟩:=ya L nF T (k:=0) (uM l) (by omega)
 rw [zero_add] at iR
 have R0:ep P N B ρ f h a { w with drawn:=w.drawn+1 }:=R.mono (Tr.drew R.heap _) (R.heap.drew _)
 have IZ:H 0=h:=f2
 have TG:Tr ρ (H 0) w ρ (H (uM l)) { w with drawn:=w.drawn+1 }:=by
  rw [iR,IZ]
  exact (Tr.drew R.heap _).trans (Tr.IQ R0.heap os)
 have R1:ep P N B ρ (eB V [] l 0 (F 0)) (H (uM l)) a { w with drawn:=w.drawn+1 }:=by
  rw [EA,f1,iR,IZ]
  exact R0.mono (Tr.IQ R0.heap os) (R0.heap.IQ os)
 refine au9 L nF T ca (fun j e hj=>by simp at hj) (fun i hi=>by simp at hi) [] (fun q=>by simp) (uM l) (le_refl _) L.head (fun e oe he _ hf=>?_) S B ρ a _ R1 (le_refl _) ?_ TG _ ?_
 ·constructor
  ·intro h;simp at h
  ·intro aB
   -- an effect at gv head is a float
   rename_i hE
   rw [L.low e oe he aB hE] at hf
   cases hf
 ·intro q d hq hf _
  obtain ⟨a',nE⟩:=Ax.1 hf
  obtain ⟨_,oo,g1,g2,g3,_,g5,_⟩:=BU T hq nE (nF q d hq hf)
  have hqm:q<uM l:=by
   apply byContradiction
   intro h'
   rw [L.high q d hq (by omega)] at hf
   cases hf
  constructor
  ·obtain ⟨os',EE⟩:=ya L nF T (k:=0) q (by omega)
   rw [zero_add,IZ] at EE
   cases hr:ρ (H q).length with
   | none=>rfl
   | some r=>
    have:=R.heap.lt hr
    rw [EE] at this
    simp at this
    omega
  ·obtain ⟨os',EE⟩:=ya L nF T (k:=q+1) (uM l-(q+1)) (by omega)
   rw [show q+1+(uM l-(q+1))=uM l by omega] at EE
   rw [EE]
   have iQ:=OK g1 (H q).length
   rw [←g2] at iQ
   unfold er
   rw [iQ]
   simp only [bind_some]
   rw [getElem?_append_left (by rw [g3];simp)]
 ·intro av a' w' R' T'
  refine ⟨rfl,av,R',?_⟩
  rw [IZ] at T'
  exact T'
theorem afm {out:Bool} {id:Nat} {ops:Array Oper} {l:List cS} {K:(Nat→Value)→ae→Prop} {f:Nat→Value} {h:ae} (hc:PT P N ops=some l) (hi:lF P l 0 [] [] K f h):
  ∃f' h',gT P N out (.region id ops true) f h .normal f' h'∧K f' h':=by
 unfold PT at hc
 split at hc
 ·rename_i l' hl
  simp at hc;subst hc
  exact ayf hl hi
 ·rw [map_eq_some_iff] at hc
  obtain ⟨⟨l',perm⟩,hl,rfl⟩:=hc
  exact aye hl hi
end
end
section
section
variable {P : Program} {N : Nat}
theorem Kk (f:Nat→Value) (ks ls:List Nat) (xs:List Value) (h:xs=ls.map f):tY (kD (ks++ls) (ks.map f++xs)) f:=by
 subst h
 rw [←List.map_append]
 exact Fm f (ks++ls)
theorem Sr {out:Bool}:∀{c:Code} {hs dT:Hints} {ic:fc},fu P N c hs=some (ic,dT)→(out=true∨iJ c=true)→∀{K:Exit→(Nat→Value)→ae→Prop} {f:Nat→Value} {h:ae},jf P ic K f h→
  ∃e f' h',gT P N out c f h e f' h'∧K e f' h':=by
 intro c
 induction c with
 | skip=>
  intro hs dT ic hc ho K f h hi
  simp [fu] at hc
  obtain ⟨rfl,_⟩:=hc
  exact ⟨.normal,f,h,fun S hS B ρ a w R=>wpIn_skip ⟨rfl,ρ,R,Tr.refl R.heap⟩,hi⟩
 | region id ops draw=>
  intro hs dT ic hc ho K f h hi
  cases draw with
  | true=>
   simp only [fu] at hc
   split at hc
   ·rename_i l hl
    split at hc
    ·rename_i wo
     simp at hc
     obtain ⟨rfl,_⟩:=hc
     have iE:=adx (acX wo) hi
     rw [It] at iE
     obtain ⟨f',h',r1,r2⟩:=afm (id:=id) hl iE
     exact ⟨.normal,f',h',r1,r2⟩
    ·cases hc
   ·cases hc
  | false=>
   simp only [fu] at hc
   split at hc
   ·rename_i l hl
    split at hc
    ·rename_i wo
     simp only [Option.some.injEq] at hc
     have he:ic=(re (uG l) hs).1:=by rw [hc]
     subst he
     obtain ⟨f',h',r1,r2⟩:=aDE (i:=0) (os:=ops.toList) (ops:=ops) (fun k o hk=>by simpa using hk) (by rw [IP];exact hl) (afW wo) hi
     refine ⟨.normal,f',h',gT.region ?_,r2⟩
     rw [List.range_eq_range']
     simpa using r1
    ·cases hc
   ·simp at hc
    obtain ⟨rfl,_⟩:=hc
    exact (show False from hi).elim
 | seq x y Av Aw=>
  intro hs dT ic hc ho K f h hi
  have Ac:out=true∨iJ x=true:=ho.imp id fun h=>by simp only [iJ,and_eq_true] at h;exact h.1
  have Ad:out=true∨iJ y=true:=ho.imp id fun h=>by simp only [iJ,and_eq_true] at h;exact h.2
  have both:∀{a b:fc} {h0 je iu:Hints} {ls:List Nat},fu P N x hs=some (a,h0)→fu P N y je=some (b,iu)→jf P (.seq a (xJ ls b)) K f h→∃e f' h',gT P N out (.seq x y) f h e f' h'∧K e f' h':=by
   intro a b h0 je iu ls ha hb hi
   obtain ⟨e,cT,h₁,r1,r2⟩:=Av ha Ac hi
   by_cases he:e=.normal
   ·subst he
    obtain ⟨Qr,hw,r3⟩:=acK r2
    obtain ⟨e',aww,JF,s1,s2⟩:=Aw hb Ad r3
    exact ⟨e',aww,JF,r1.seq (s1.weaken hw),s2⟩
   ·refine ⟨e,cT,h₁,r1.aEt he,?_⟩
    cases e <;> first | exact absurd rfl he | exact r2
  simp only [fu] at hc
  split at hc
  ·rename_i a h0 je ha
   split at hc
   ·rename_i b iu hb
    simp at hc
    obtain ⟨rfl,_⟩:=hc
    exact both ha hb hi
   ·cases hc
  ·rename_i a ha
   split at hc
   ·rename_i b iu hb
    simp at hc
    obtain ⟨rfl,_⟩:=hc
    exact both (ls:=[]) ha hb hi
   ·cases hc
  ·cases hc
 | cond c x y Av Aw=>
  intro hs dT ic hc ho K f h hi
  have Ac:out=true∨iJ x=true:=ho.imp id fun h=>by simp only [iJ,and_eq_true] at h;exact h.1
  have Ad:out=true∨iJ y=true:=ho.imp id fun h=>by simp only [iJ,and_eq_true] at h;exact h.2
  simp only [fu] at hc
  split at hc
  ·rename_i aC
   split at hc
   ·rename_i a je ha
    split at hc
    ·rename_i b iu hb
     simp at hc
     obtain ⟨rfl,_⟩:=hc
     rw [afD] at hi
     simp only [pI] at hi
     split at hi
     ·rename_i t ht
      cases t
      ·simp at hi
       obtain ⟨e,cT,h₁,r1,r2⟩:=Aw hb Ad hi
       exact ⟨e,cT,h₁,gT.cond aC ht (by simpa using r1),r2⟩
      ·simp at hi
       obtain ⟨e,cT,h₁,r1,r2⟩:=Av ha Ac hi
       exact ⟨e,cT,h₁,gT.cond aC ht (by simpa using r1),r2⟩
     ·exact hi.elim
    ·cases hc
   ·cases hc
  ·cases hc
 | block id c ih=>
  intro hs dT ic hc ho K f h hi
  simp only [fu] at hc
  split at hc
  ·rename_i a je ha
   simp at hc
   obtain ⟨rfl,_⟩:=hc
   obtain ⟨e,cT,h₁,r1,r2⟩:=ih ha (ho.imp (fun h=>h) fun h=>h) hi
   refine ⟨_,cT,h₁,r1.block,?_⟩
   cases e with
   | exit i=>
    simp only [bI] at r2⊢
    split <;> rename_i h
    ·rw [if_pos h] at r2;exact r2
    ·rw [if_neg h] at r2;exact r2
   | _=>exact r2
  ·cases hc
 | loop c ih=>
  intro hs dT ic hc ho K f h hi
  simp only [fu] at hc
  split at hc
  ·rename_i ks ls je
   split at hc
   ·rename_i a iu ha
    simp at hc
    obtain ⟨rfl,_⟩:=hc
    obtain ⟨J,μ,h0,RJ⟩:=hi
    have key:∀(n:Nat) (xs:List Value) (hh:ae),μ xs hh=n→J xs hh→∃e f' h',qj P N out c (kD (ks++ls) (ks.map f++xs)) hh e f' h'∧K e f' h':=by
     intro n
     induction n using Nat.strongRecOn with
     | _ n tC=>
      intro xs hh hn hJ
      obtain ⟨e,cT,h₁,r1,r2⟩:=ih ha (ho.imp (fun h=>h) fun h=>h) (RJ xs hh hJ)
      by_cases he:e=.normal
      ·subst he
       obtain ⟨hk,QI,aB⟩:=r2
       obtain ⟨e',f',h',s1,s2⟩:=tC (μ (ls.map cT) h₁) (by omega) (ls.map cT) h₁ rfl QI
       refine ⟨e',f',h',qj.next r1 (s1.weaken ?_),s2⟩
       rw [←hk]
       exact Kk cT ks ls _ rfl
      ·refine ⟨e,cT,h₁,qj.leave he r1,?_⟩
       cases e <;> first | exact absurd rfl he | exact r2
    obtain ⟨e,f',h',s1,s2⟩:=key _ (ls.map f) h rfl h0
    exact ⟨e,f',h',(s1.weaken (Kk f ks ls _ rfl)).run,s2⟩
   ·cases hc
  ·cases hc
 | exit id=>
  intro hs dT ic hc ho K f h hi
  simp [fu] at hc
  obtain ⟨rfl,_⟩:=hc
  exact ⟨.exit id,f,h,fun S hS B ρ a w R=>wpIn_exit ⟨rfl,ρ,R,Tr.refl R.heap⟩,hi⟩
 | ret=>
  intro hs dT ic hc ho K f h hi
  simp [fu] at hc
  obtain ⟨rfl,_⟩:=hc
  exact ⟨.ret,f,h,fun S hS B ρ a w R=>wpIn_ret ⟨rfl,ρ,R,Tr.refl R.heap⟩,hi⟩
 | rangeFunc g ps kn body=>
  intro hs dT ic hc ho K f h hi
  have ho:out=true:=ho.resolve_right (by simp [iJ])
  subst ho
  simp only [fu] at hc
  split at hc
  ·rename_i ls je
   split at hc
   ·rename_i hk
    simp at hc
    obtain ⟨rfl,_⟩:=hc
    simp only [and_eq_true] at hk
    obtain ⟨h',r1,r2⟩:=amn hk.1 hi
    exact ⟨.normal,f,h',r1,r2⟩
   ·cases hc
  ·cases hc
 | _=>intro hs dT ic hc;simp [fu] at hc
end
end
section
section
variable {P : Program} {ρ : aI} {h : ae} {w : World}
def CM:List Tmp→List Value→(Nat→Value)→Nat→Value
 | p::ps,v::vs,f=>CM ps vs (yE f p v)
 | _,_,f=>f
theorem alf {N:Nat}:∀{ps:List Tmp} {args args':List Value} {f:Nat→Value} {tmps:Array Value},bF ρ args args'→(∀p∈ps,p<N)→tmps.size=N→(∀t,ay ρ (f t) (tmps.getD t Go.undef))→
  ((ps.zip args').foldl (fun (t:Array Value) (p,v)=>t.setIfInBounds p v) tmps).size=N∧
   ∀t,ay ρ (CM ps args f t) (((ps.zip args').foldl (fun (t:Array Value) (p,v)=>t.setIfInBounds p v) tmps).getD t Go.undef)
 | [],args,args',f,tmps,_,_,hs,hf=>⟨hs,hf⟩
 | p::ps,_,_,f,tmps,.nil,_,hs,hf=>⟨hs,hf⟩
 | p::ps,_,_,f,tmps,.cons (x:=x) (y:=y) ha hr,hp,hs,hf=>by
  simp only [List.zip_cons_cons,List.foldl_cons,CM]
  refine alf hr (fun q hq=>hp q (by simp [hq])) (by simpa using hs) ?_
  intro t
  simp only [tV]
  by_cases ht:t=p
  ·subst ht
   have:t<tmps.size:=by rw [hs];exact hp t (by simp)
   simp [Array.getD,this]
   exact ha
  ·rw [if_neg ht]
   have e:(tmps.setIfInBounds p y).getD t Go.undef=tmps.getD t Go.undef:=by
    simp only [Array.getD_eq_getD_getElem?,Array.getElem?_setIfInBounds]
    rw [if_neg (by omega)]
   rw [e]
   exact hf t
theorem marks.put {B:Nat} {l:Nat} {o:Obj}:∀{ds:List Deferred},(∀d∈ds,d≠mark l)→marks B ds w→marks B ds (w.putObj l o)
 | [],_,h=>by simpa [marks] using h
 | d::ds,bm,⟨⟨D,h1,h2,h3,h4⟩,h5⟩=>by
  refine ⟨⟨D,h1,h2,?_,h4⟩,marks.put (fun d hd=>bm d (by simp [hd])) h5⟩
  rw [AX]
  ·exact h3
  ·rintro rfl
   exact bm d (by simp) h1
theorem marks.ne {B l:Nat} {rec:Loop} (hl:w.heap[l]?=some (.loop rec)):∀{ds:List Deferred},marks B ds w→∀d∈ds,d≠mark l
 | [],_,d,hd=>by simp at hd
 | d::ds,⟨⟨D,h1,h2,h3,h4⟩,h5⟩,d',hd=>by
  rcases mem_cons.1 hd with rfl | hd
  ·rintro e
   rw [h1] at e
   obtain rfl:=ago e
   rw [hl] at h3
   cases h3
  ·exact marks.ne hl h5 d' hd
theorem agL {av:aI} {h':ae} {w':World} (H':aX P av h' w') (T:Tr ρ h w av h' w') {l:Nat} {rec:Loop} (aB:l<w.heap.size) (hl:w'.heap[l]?=some (.loop rec))
  (no:∀j s,ρ j=some s→s.bu=l→¬cC h j):∀j s,av j=some s→s.bu=l→¬eW h' j:=by
 intro j s hj hs hv
 obtain ⟨c,ls,vs,hc⟩:=H'.afA hl hj hs hv
 cases hr:ρ j with
 | some s'=>
  have:=T.ext j s' hr
  rw [hj] at this
  cases this
  exact no j s hr hs (T.kinds j (T.jN j s hr) (.inr (.inr (.inl ⟨_,_,_,hc⟩))))
 | none=>
  obtain ⟨_,q⟩:=T.fresh j s hj hr
  rcases q with q | ⟨j',s',q1,q2,q3⟩
  ·omega
  ·exact no j' s' q1 (q2.trans hs) q3
theorem aX.Lg (H:aX P ρ h w) {i:Nat} {r:RI} {o:ak} {x:Obj} (hi:ρ i=some r) (no:∀j s,ρ j=some s→s.bu=r.bu→¬eW h j) (ho:lJ ρ (w.putObj r.bu x) r o):
  aX P ρ (h.set i o) (w.putObj r.bu x):=by
 have aB:=H.lt hi
 have ml:∀j,j≠i→cC (h.set i o) j→cC h j:=by
  intro j e hm
  unfold cC at hm⊢
  rw [getElem?_set_ne (Ne.symm e)] at hm
  exact hm
 have ll:∀j,j≠i→eW (h.set i o) j→eW h j:=by
  intro j e hm
  unfold eW at hm⊢
  rw [getElem?_set_ne (Ne.symm e)] at hm
  exact hm
 refine ⟨?_,?_,H.aV⟩
 ·intro j s hj
  by_cases e:j=i
  ·subst e
   rw [hi] at hj
   cases hj
   exact ⟨o,by rw [getElem?_set_self aB],ho⟩
  ·obtain ⟨o',dN,hr⟩:=H.obj j s hj
   refine ⟨o',by rw [getElem?_set_ne (Ne.symm e)];exact dN,?_⟩
   by_cases hd:o'=.dead
   ·subst hd;trivial
   ·refine hr.mono (.refl _) (AX ?_)
    intro e'
    exact no j s hj e' ⟨o',dN,hd⟩
 ·intro a b s t ha hb b7 hm hl
  by_cases ea:a=i <;> by_cases eb:b=i
  ·omega
  ·subst ea
   rw [hi] at ha;cases ha
   exact absurd (ll b eb hl) (no b t hb b7.symm)
  ·subst eb
   rw [hi] at hb;cases hb
   exact absurd (ml a ea hm).live (no a s ha b7)
  ·exact H.inj a b s t ha hb b7 (ml a ea hm) (ll b eb hl)
theorem Tr.Lg {av:aI} {h':ae} {w':World} {i:Nat} (hm:cC h i) (T:Tr ρ (h.set i .dead) w av h' w') (o:ak):Tr ρ h w av (h'.set i o) w':=by
 have ml:∀j,cC (h.set i .dead) j→cC h j:=by
  intro j hj
  by_cases e:j=i
  ·subst e;exact hm
  ·unfold cC at hj⊢
   rw [getElem?_set_ne (Ne.symm e)] at hj
   exact hj
 exact {
  ext:=T.ext
  len:=by simpa using T.len
  jN:=fun j s hj=>by simpa using T.jN j s hj
  kinds:=by
   intro j hj Es
   by_cases e:j=i
   ·subst e;exact hm
   ·refine ml j (T.kinds j (by simpa using hj) ?_)
    unfold cC at Es⊢
    rw [getElem?_set_ne (Ne.symm e)] at Es
    exact Es
  fresh:=by
   intro j s h1 h2
   obtain ⟨q1,q2⟩:=T.fresh j s h1 h2
   refine ⟨by simpa using q1,q2.imp (fun h=>h) ?_⟩
   rintro ⟨j',s',a,b,c⟩
   exact ⟨j',s',a,b,ml j' c⟩
  iX:=T.iX
  iC:=fun k hk dB=>T.iC k hk fun j s hj hs hmm=>dB j s hj hs (ml j hmm)
  os:=T.os
  tape:=T.tape
  output:=T.output }
theorem Tr.alq {i:Nat} {r:RI} (hd:∀j s,ρ j=some s→j<h.length) (hi:ρ i=some r) {h₁:ae} (hl:h₁.length=h.length) (hm:cC h₁ i) (x:Obj):Tr ρ h₁ w ρ h₁ (w.putObj r.bu x) where
 ext:=.refl _
 len:=le_refl _
 jN:=fun j s hj=>by rw [hl];exact hd j s hj
 kinds:=fun _ _ h=>h
 fresh:=fun j s h1 h2=>by rw [h1] at h2;cases h2
 iX:=by rw [World.putObj_size];exact le_refl _
 iC:=fun k hk dB=>AX fun e=>dB i r hi e.symm hm
 os:=rfl
 tape:=rfl
 output:=rfl
theorem aEA {h:ae} {i:Nat} {o:ak} (hi:h[i]?=some o):h.set i o=h:=by
 apply List.ext_getElem?
 intro j
 by_cases e:j=i
 ·subst e
  rw [getElem?_set_self (bL hi).1,hi]
 ·rw [getElem?_set_ne (Ne.symm e)]
theorem aFR {i:Nat} {c:Ds} {ls:List Nat} {vs args:List Value} {ia ib:fc} {je iu axQ axR:Hints} {K:Value→ae→Prop} (hi:h[i]?=some (.loop c ls vs)) (hn:args.length=c.ps.size)
  (Ci:c.ps.all (·<c.N)=true) (ha:fu P c.N c.kn je=some (ia,axQ)) (hb:fu P c.N c.body iu=some (ib,axR)) (na:iJ c.kn=true) (nb:iJ c.body=true)
  (hw:jf P ia (fun e f1 h1=>e=.normal∧h1[i]?=some .dead∧jf P ib (fun e _ h2=>e=.normal∧h2[i]?=some .dead∧K (.bool true) (h2.set i (.loop c ls vs))) f1 h1) (CM c.ps.toList args (kD ls vs)) (h.set i .dead)):
  E1 P i args h K:=by
 obtain ⟨e1,f1,h1,r1,rfl,d1,mH⟩:=Sr (out:=false) ha (.inr na) hw
 obtain ⟨e2,f2,h2,r2,rfl,d2,hk⟩:=Sr (out:=false) hb (.inr nb) mH
 refine ⟨.bool true,h2.set i (.loop c ls vs),?_,hk⟩
 intro ρ r args' w jt sW H
 have hmi:cC h i:=.inr (.inr (.inl ⟨_,_,_,hi⟩))
 obtain ⟨o,ho,rT⟩:=H.obj i r jt
 rw [hi] at ho
 cases ho
 obtain ⟨rec,g1,g2,g3,g4,g5,g6,g7,g8⟩:=rT
 have aB:=(Array.getElem?_eq_some_iff.1 g1).1
 have kU:args'.size=rec.params.size:=by
  have:=sW.length
  rw [g6,←hn,this]
  simp
 refine ⟨rec.fn,_,rec.assign,rec.body,run_yield g1 kU,?_⟩
 rw [g4,g5]
 have Eo:(rec.params.zip args').foldl (fun (t:Array Value) (p,v)=>t.setIfInBounds p v) rec.tmps=(c.ps.toList.zip args'.toList).foldl (fun (t:Array Value) (p,v)=>t.setIfInBounds p v) rec.tmps:=by
  rw [g6,←Array.toList_zip,Array.foldl_toList]
 obtain ⟨p1,p2⟩:=alf (N:=c.N) (ps:=c.ps.toList) (f:=kD ls vs) (tmps:=rec.tmps) sW (by
  intro p hp
  rw [Array.all_eq_true'] at Ci
  exact of_decide_eq_true (Ci p (by simpa using hp))) g7 g8
 have R0:ep P c.N w.heap.size ρ (CM c.ps.toList args (kD ls vs)) (h.set i .dead) { tmps:=(rec.params.zip args').foldl (fun (t:Array Value) (p,v)=>t.setIfInBounds p v) rec.tmps,defers:=[] } w:=
  ⟨by rw [Eo];exact p1,le_refl _,fun t=>by rw [Eo];exact p2 t,H.kill i⟩
 refine roundIn_of_wpIn (F:=Fence.wide) trivial ?_
 refine wpIn_mono (r1 (some r.bu) (fun h=>by cases h) _ ρ _ w R0) ?_
 rintro e a1 w1 ⟨rfl,rz,R1,T1⟩
 have u1:∀j s,ρ j=some s→s.bu=r.bu→¬cC (h.set i .dead) j:=by
  intro j s hj hs hm
  by_cases e:j=i
  ·subst e
   unfold cC at hm
   rw [getElem?_set_self (H.lt jt)] at hm
   rcases hm with ⟨_,_,h1⟩ | ⟨_,h1⟩ | ⟨_,_,_,h1⟩ | ⟨_,_,h1⟩ | ⟨_,_,_,h1⟩ | ⟨_,_,_,_,h1⟩ <;> cases h1
  ·refine e (H.inj j i s r hj jt hs ?_ hmi.live)
   unfold cC at hm⊢
   rw [getElem?_set_ne (Ne.symm e)] at hm
   exact hm
 have l1:w1.heap[r.bu]?=some (.loop rec):=(T1.iC _ aB u1).trans g1
 have Ji:=(Array.getElem?_eq_some_iff.1 l1).1
 refine ⟨_,run_beginRound l1 g2,?_⟩
 have S6:=agL R1.heap T1 aB l1 u1
 have l2:(w1.putObj r.bu (.loop { rec with state:=.busy })).heap[r.bu]?=some (.loop { rec with state:=.busy }):=World.putObj_heap_same Ji
 have R2:ep P c.N w.heap.size rz f1 h1 a1 (w1.putObj r.bu (.loop { rec with state:=.busy })):=
  ⟨R1.size,marks.put (marks.ne l1 R1.defers) R1.defers,R1.tmp,R1.heap.put S6 _⟩
 refine wpIn_mono (r2 (some r.bu) (fun h=>by cases h) _ rz a1 _ R2) ?_
 rintro e a3 w3 ⟨rfl,Wz,R3,T3⟩
 have l3:w3.heap[r.bu]?=some (.loop { rec with state:=.busy }):=(T3.iC _ (by simpa using Ji) fun j s hj hs hm=>S6 j s hj hs hm.live).trans l2
 have no3:=agL R3.heap T3 (by simpa using Ji) l3 fun j s hj hs hm=>S6 j s hj hs hm.live
 have axL:({ ({ rec with state:=.busy }:Loop) with state:=if (none:Option Code).isNone then .ready else .done,pending:=none }:Loop)=rec:=by
  cases rec
  simp only at g2 g3
  subst g2
  subst g3
  rfl
 have he:=run_endRound (P:=P) none l3
 rw [axL] at he
 have R9:rz i=some r:=T1.ext _ _ jt
 have Sa:Wz i=some r:=T3.ext _ _ R9
 have Ri:=(Array.getElem?_eq_some_iff.1 l3).1
 refine ⟨_,_,he,.bool true,Wz,rfl,.bool _,?_,?_⟩
 ·refine R3.heap.Lg Sa no3 ⟨rec,World.putObj_heap_same Ri,g2,g3,g4,g5,g6,g7,fun t=>(g8 t).mono (T1.ext.trans T3.ext)⟩
 ·have m1:cC (h1.set i (.loop c ls vs)) i:=.inr (.inr (.inl ⟨c,ls,vs,getElem?_set_self (R1.heap.lt R9)⟩))
  have m3:cC (h2.set i (.loop c ls vs)) i:=.inr (.inr (.inl ⟨c,ls,vs,getElem?_set_self (R3.heap.lt Sa)⟩))
  have A:=T1.Lg hmi (.loop c ls vs)
  have B:=Tr.alq (w:=w1) (fun j s hj=>R1.heap.lt hj) R9 (h₁:=h1.set i (.loop c ls vs)) (by simp) m1 (.loop { rec with state:=.busy })
  have e1:(h1.set i (.loop c ls vs)).set i .dead=h1:=by rw [List.set_set,aEA d1]
  have C:Tr rz (h1.set i (.loop c ls vs)) _ Wz (h2.set i (.loop c ls vs)) w3:=Tr.Lg m1 (by rw [e1];exact T3) _
  have D:=Tr.alq (w:=w3) (fun j s hj=>R3.heap.lt hj) Sa (h₁:=h2.set i (.loop c ls vs)) (by simp) m3 (.loop rec)
  exact ((A.trans B).trans C).trans D
end
end
section
inductive kN where
 | tmp (t:Nat)
 | cell (agg:Bool) (n:Nat) (a:Nat)
def yv (r:kN) (f:Nat→Value) (h:ae):Option Value:=
 match r with
 | .tmp t=>some (f t)
 | .cell agg n a=>af agg n h (f a)
def pc:List kN→(Nat→Value)→ae→Option (List Value)
 | [],_,_=>some []
 | r::rs,f,h=>match yv r f h,pc rs f h with
  | some v,some vs=>some (v::vs)
  | _,_=>none
def pack:List Value→Value
 | [v]=>v
 | vs=>.tuple vs.toArray
def w7:List kN→(Nat→Value)→ae→(List Value→Prop)→Prop
 | [],_,_,k=>k []
 | .tmp t::rs,f,h,k=>w7 rs f h fun vs=>k (f t::vs)
 | .cell agg n a::rs,f,h,k=>fE (af agg n h (f a)) fun v=>w7 rs f h fun vs=>k (v::vs)
def Ld (rs:List kN) (K:Value→ae→Prop) (f:Nat→Value) (h:ae):Prop:=w7 rs f h fun vs=>K (pack vs) h
theorem Le:∀{rs:List kN} {f:Nat→Value} {h:ae} {k:List Value→Prop},w7 rs f h k→∃vs,pc rs f h=some vs∧k vs
 | [],f,h,k,hr=>⟨[],rfl,hr⟩
 | .tmp t::rs,f,h,k,hr=>by
  obtain ⟨vs,h1,h2⟩:=Le (rs:=rs) hr
  exact ⟨f t::vs,by simp [pc,yv,h1],h2⟩
 | .cell agg n a::rs,f,h,k,hr=>by
  simp only [w7,fE] at hr
  split at hr
  ·rename_i v hv
   obtain ⟨vs,h1,h2⟩:=Le (rs:=rs) hr
   exact ⟨v::vs,by simp [pc,yv,h1,hv],h2⟩
  ·exact hr.elim
def OW (rs:List kN) (K:Value→ae→Prop):Exit→(Nat→Value)→ae→Prop
 | .normal,f,h=>Ld rs K f h
 | .ret,f,h=>Ld rs K f h
 | _,_,_=>False
def bG (args:List Value):Nat→Value:=fun j=>args.getD j undef
def Ir (P:Program):ResultVar→Option kN
 | .tmp t=>some (.tmp t)
 | .cell a t=>
  match P.underlying t with
  | some d=>if iS P t&&(oE d||P.cellsOf t==1) then some (.cell (oE d) (P.cellsOf t) a) else none
  | none=>none
def BJ (P:Program):List ResultVar→Option (List kN)
 | []=>some []
 | r::rs=>match Ir P r,BJ P rs with
  | some x,some xs=>some (x::xs)
  | _,_=>none
def bK (P:Program) (F:FuncId) (hs:Hints):Option (Nat×fc×List kN):=
 match P.funcs[F]? with
 | some fn=>match fn.body with
  | some c=>match fu P fn.ntmps c hs,BJ P fn.results.toList with
   | some (ic,_),some rs=>some (fn.ntmps,ic,rs)
   | _,_=>none
  | none=>none
 | none=>none
def bR:Option (Nat×fc×List kN)→fc
 | some (_,c,_)=>c
 | none=>.skip
def fc.l:fc→fc
 | .seq a _=>a
 | .cut _ c=>c
 | .cond _ a _=>a
 | .block _ c=>c
 | .loop _ _ c=>c
 | c=>c
def fc.r:fc→fc
 | .seq _ b=>b
 | .cond _ _ b=>b
 | c=>c
section
variable {P : Program} {w : World} {ρ : aI} {h : ae}
def A1 (tmps:Array Value):ResultVar→Sem Value
 | .tmp t=>pure (tmps.getD t Go.undef)
 | .cell b t=>do loadVar t (←asAddr (tmps.getD b Go.undef))
theorem aDL (fn:Func) (tmps:Array Value):results fn tmps=(do let vs ←fn.results.mapM (A1 tmps);pure (if h:vs.size=1 then vs[0] else .tuple vs)):=by
 have e:(fun r:ResultVar=>(match r with
   | .tmp t=>(pure (tmps.getD t Go.undef):Sem Value)
   | .cell a t=>do loadVar t (←asAddr (tmps.getD a Go.undef))))=A1 tmps:=by
  funext r
  cases r <;> rfl
 rw [←e]
 rfl
theorem aEs {N B:Nat} {f:Nat→Value} {a:Act} (R:ep P N B ρ f h a w) {r:ResultVar} {x:kN} (hc:Ir P r=some x) {v:Value} (hv:yv x f h=some v):
  ∃v',(A1 a.tmps r).run P w=.ok v' w∧ay ρ v v':=by
 cases r with
 | tmp t=>
  simp [Ir] at hc;subst hc
  simp [yv] at hv;subst hv
  exact ⟨_,rfl,R.tmp t⟩
 | cell b t=>
  simp only [Ir] at hc
  split at hc
  ·rename_i d ht
   split at hc
   ·rename_i hk
    simp at hc;subst hc
    simp only [and_eq_true] at hk
    simp only [yv] at hv
    obtain ⟨v',q1,q2⟩:=amC R.heap ht hk.1 hv (R.tmp b)
    refine ⟨v',?_,q2⟩
    have lZ:=hv
    unfold af at lZ
    split at lZ
    ·rename_i i o hfb
     have:=R.tmp b
     rw [hfb] at this
     obtain ⟨r',_,e⟩:=this.FG
     simp only [A1]
     rw [e] at q1⊢
     simpa [Instr.loadAt,Instr.sureAddr,asAddr] using q1
    ·cases lZ
   ·cases hc
  ·cases hc
theorem amI {α β:Type} (g:α→Sem β) (w:World):∀{xs:List α} {ys:List β},(∀(k:Nat) (x:α),xs[k]?=some x→∃y,ys[k]?=some y∧(g x).run P w=.ok y w)→xs.length=ys.length→(xs.mapM g).run P w=.ok ys w
 | [],[],_,_=>rfl
 | x::xs,y::ys,h,hl=>by
  obtain ⟨y',h1,h2⟩:=h 0 x rfl
  simp at h1;subst h1
  have ih:=amI g w (xs:=xs) (ys:=ys) (fun k a hk=>by simpa using h (k+1) a (by simpa using hk)) (by simpa using hl)
  simp only [List.mapM_cons,Sem.run_bind,h2,Result.andThen_ok,ih,Sem.run_pure]
theorem amK {N B:Nat} {f:Nat→Value} {a:Act} (R:ep P N B ρ f h a w):∀{l:List ResultVar} {rs:List kN} {vs:List Value},BJ P l=some rs→pc rs f h=some vs→
  ∃jS:List Value,bF ρ vs jS∧l.length=jS.length∧∀(k:Nat) (r:ResultVar),l[k]?=some r→∃y,jS[k]?=some y∧(A1 a.tmps r).run P w=.ok y w
 | [],rs,vs,hc,hv=>by
  simp [BJ] at hc;subst hc
  simp [pc] at hv;subst hv
  exact ⟨[],.nil,rfl,fun k r hk=>by simp at hk⟩
 | r::l,rs,vs,hc,hv=>by
  simp only [BJ] at hc
  split at hc
  ·rename_i x xs h1 h2
   simp at hc;subst hc
   simp only [pc] at hv
   split at hv
   ·rename_i v vs h3 h4
    simp at hv;subst hv
    obtain ⟨v',q1,q2⟩:=aEs R h1 h3
    obtain ⟨jS,s1,s2,s3⟩:=amK R h2 h4
    refine ⟨v'::jS,.cons q2 s1,by simp [s2],?_⟩
    intro k r' hk
    cases k with
    | zero=>simp at hk;subst hk;exact ⟨v',rfl,q1⟩
    | succ k=>simpa using s3 k r' (by simpa using hk)
   ·cases hv
  ·cases hc
theorem amL {N B:Nat} {f:Nat→Value} {a:Act} (R:ep P N B ρ f h a w) {fn:Func} {rs:List kN} {vs:List Value} (hc:BJ P fn.results.toList=some rs) (hv:pc rs f h=some vs):
  ∃v',(results fn a.tmps).run P w=.ok v' w∧ay ρ (pack vs) v':=by
 obtain ⟨jS,h1,h2,h3⟩:=amK R hc hv
 have hm:=amI (P:=P) (A1 a.tmps) w h3 h2
 have gp:(fn.results.mapM (A1 a.tmps)).run P w=.ok jS.toArray w:=by
  rw [Array.mapM_eq_mapM_toList]
  simp only [Sem.run_map,hm,Result.andThen_ok]
 refine ⟨if h:jS.toArray.size=1 then jS.toArray[0] else .tuple jS.toArray,?_,?_⟩
 ·rw [aDL]
  simp only [Sem.run_bind,gp,Result.andThen_ok,Sem.run_pure]
 ·cases h1 with
  | nil=>simpa [pack] using ay.sA (ρ:=ρ) .nil
  | cons a1 a2=>
   cases a2 with
   | nil=>simpa [pack] using a1
   | cons b1 b2=>simpa [pack] using ay.sA (.cons a1 (.cons b1 b2))
theorem adt {args:List Value} {args':Array Value} (hv:bF ρ args args'.toList) (N:Nat) (t:Nat):ay ρ (bG args t) ((args'++replicate (N-args'.size) Go.undef).getD t Go.undef):=by
 unfold bG
 have hl:=hv.length
 by_cases ht:t<args.length
 ·obtain ⟨y,hy,hr⟩:=hv.get (k:=t) (x:=args[t]) (getElem?_eq_getElem ht)
  have hs:t<args'.size:=by simpa using (by omega:t<args'.toList.length)
  have e1:args.getD t undef=args[t]:=by simp [getD,ht]
  rw [e1,Array.getD_eq_getD_getElem?,Array.getElem?_append_left hs]
  simp only [getElem?_toList] at hy
  rw [hy]
  exact hr
 ·have e1:args.getD t undef=undef:=by simp [getD,le_of_not_lt ht]
  have e2:(args'++replicate (N-args'.size) Go.undef).getD t Go.undef=undef:=by
   have hs:¬t<args'.size:=by simp at hl;omega
   rw [Array.getD_eq_getD_getElem?,Array.getElem?_append_right (by omega)]
   by_cases h2:t-args'.size<N-args'.size
   ·simp [h2]
   ·simp [h2]
  rw [e1,e2]
  exact ay.undef _
theorem Tr.azj {av:aI} {h':ae} {w':World} (T:Tr ρ h w av h' w') {l:Nat} (hl:w.heap.size≤l) (o:Obj):Tr ρ h w av h' (w'.putObj l o) where
 ext:=T.ext
 len:=T.len
 jN:=T.jN
 kinds:=T.kinds
 fresh:=T.fresh
 iX:=by rw [World.putObj_size];exact T.iX
 iC:=fun k hk dB=>by rw [AX (by omega)];exact T.iC k hk dB
 os:=T.os
 tape:=T.tape
 output:=T.output
theorem SF {av:aI} {h':ae} {fn:Func} {tmps:Array Value} {Q:Ending→World→Prop}:∀{ds:List Deferred} {w':World},marks w.heap.size ds w'→aX P av h' w'→Tr ρ h w av h' w'→
  (∀ke,aX P av h' ke→Tr ρ h w av h' ke→∃v,(results fn tmps).run P ke=.ok v ke∧Q (.returned v) ke)→LeavesInM Fence.wide 0 P fn tmps Q ds .returning w'
 | [],w',_,H,T,hq=>hq w' H T
 | d::ds,w',⟨⟨D,h1,h2,h3,h4⟩,h5⟩,H,T,hq=>by
  refine ⟨by simp,.inl ⟨D,_,by rw [h1];rfl,run_takeDeferred h3,?_⟩⟩
  exact SF (marks.put (fun d hd=>h4 d hd) h5) (H.put (fun j s hj hs=>H.S8 h3 hj hs) _) (T.azj h2 _) hq
theorem afk {F:FuncId} {N:Nat} {ic:fc} {rs:List kN} {hs:Hints} (hc:bK P F hs=some (N,ic,rs)) {args:List Value} (ha:args.length≤N) {K:Value→ae→Prop}
  (hi:jf P ic (OW rs K) (bG args) h):sj P F args h K:=by
 unfold bK at hc
 split at hc
 ·rename_i fn hf
  split at hc
  ·rename_i c hb
   split at hc
   ·rename_i ic' _ Vu h1 h2
    simp at hc
    obtain ⟨hN,rfl,rfl⟩:=hc
    obtain ⟨e,f',h',r1,r2⟩:=Sr (out:=true) h1 (.inl rfl) hi
    have tk:(e=.normal∨e=.ret)∧Ld Vu K f' h':=by
     cases e <;> first | exact ⟨.inl rfl,r2⟩ | exact ⟨.inr rfl,r2⟩ | exact r2.elim
    obtain ⟨he,tk⟩:=tk
    obtain ⟨vs,yp,tk⟩:=Le tk
    ·refine ⟨pack vs,h',?_,tk⟩
     intro ρ args' w hv H
     refine callsIn_wide.1 (callsIn_of_wp_marks (F:=Fence.wide) (n:=0) hf hb trivial ?_ rfl)
     have kU:args'.size=args.length:=by have:=hv.length;simpa using this.symm
     have R:ep P fn.ntmps w.heap.size ρ (bG args) h { tmps:=args'++replicate (fn.ntmps-args'.size) Go.undef,defers:=[] } w:=⟨by simp;omega,le_refl _,adt hv fn.ntmps,H⟩
     refine wpIn_mono (r1 none (fun _=>rfl) _ ρ _ w R) ?_
     rintro e' a' w' ⟨rfl,av,R',T⟩
     have key:LeavesInM Fence.wide 0 P fn a'.tmps (fun e w'=>∃v' av,e=.returned v'∧ay av (pack vs) v'∧aX P av h' w'∧Tr ρ h w av h' w') a'.defers .returning w':=by
      refine SF R'.defers R'.heap T ?_
      intro ke Dl uj
      have oP:ep P fn.ntmps 0 av f' h' { a' with defers:=[] } ke:=⟨R'.size,Nat.zero_le _,R'.tmp,Dl⟩
      obtain ⟨v',q1,q2⟩:=amL oP h2 yp
      exact ⟨v',q1,v',av,rfl,q2,Dl,uj⟩
     rcases he with rfl | rfl
     ·exact key
     ·exact key
   ·cases hc
  ·cases hc
 ·cases hc
theorem ayc {F:FuncId} {args:List Value} {h:ae} {v:Value} (hi:sj P F args h fun u _=>u=v) {ρ:aI} {args':Array Value} {w:World} (hv:bF ρ args args'.toList) (H:aX P ρ h w)
  (mG:∀i,¬cC h i):Calls P F args' w fun e w'=>(∃v' av,e=.returned v'∧ay av v v')∧RowKit.Below w.heap.size w w':=by
 obtain ⟨u,h',hc,rfl⟩:=hi
 refine (hc ρ args' w hv H).mono ?_
 rintro e w' ⟨v',av,rfl,h1,_,T⟩
 exact ⟨⟨v',av,rfl,h1⟩,⟨T.os,T.tape,T.output,T.iX,fun k hk=>T.iC k hk fun j s _ _ hm=>mG j hm⟩⟩
end
end
section
abbrev VK:=Value→ae→Prop
abbrev LQ:=List Value→ae→Prop
abbrev gm (a n:Nat):jj:=⟨some a,.p (.mv (.tmp n))⟩
abbrev gd (a n m:Nat):km:=⟨some a,.p (.mv (.tmp n)),m⟩
abbrev ci (n:Int):Operand:=.const (.int .i64 n)
inductive OP (o:Option Value) (K:Value→Prop):Prop | mk:fE o K→OP o K
inductive OH (o:Option (Value×ae)) (K:Value→ae→Prop):Prop | mk:nO o K→OH o K
inductive aQ (c:Value) (a b:Prop):Prop | mk:pI c a b→aQ c a b
inductive cE (v:Value) (b:Bool) (A B:Prop):Prop | mk:kP v b A B→cE v b A B
inductive ax (Q:(Nat→Value)→ae→Prop) (ls:List Nat) (vs:List Value) (h:ae):Prop | mk:BL Q ls vs h→ax Q ls vs h
inductive cJ (init:List Value) (h:ae) (Q:(List Value→ae→Prop)→List Value→ae→Prop):Prop | mk:AH init h Q→cJ init h Q
inductive aq (P:Program) (F:FuncId) (args:List Value) (h:ae) (K:Value→ae→Prop):Prop | mk:sj P F args h K→aq P F args h K
inductive sJ (P:Program) (x:Value) (args:List Value) (h:ae) (K:Value→ae→Prop):Prop | mk:uu P x args h K→sJ P x args h K
inductive BA (P:Program) (g:Value) (ls:List Nat) (vs:List Value) (c:Ds) (h:ae) (K:ae→Prop):Prop | mk:vk P g ls vs c h K→BA P g ls vs c h K
theorem YM:BA=vk:=funext fun _=>funext fun _=>funext fun _=>funext fun _=>funext fun _=>funext fun _=>funext fun _=>propext ⟨fun ⟨h⟩=>h,.mk⟩
theorem Bz:OP=fE:=funext fun _=>funext fun _=>propext ⟨fun ⟨h⟩=>h,.mk⟩
theorem M8:OH=nO:=funext fun _=>funext fun _=>propext ⟨fun ⟨h⟩=>h,.mk⟩
theorem Xh:aQ=pI:=funext fun _=>funext fun _=>funext fun _=>propext ⟨fun ⟨h⟩=>h,.mk⟩
theorem Mo:cE=kP:=funext fun _=>funext fun _=>funext fun _=>funext fun _=>propext ⟨fun ⟨h⟩=>h,.mk⟩
theorem Dj:ax=BL:=funext fun _=>funext fun _=>funext fun _=>funext fun _=>propext ⟨fun ⟨h⟩=>h,.mk⟩
theorem YK:cJ=AH:=funext fun _=>funext fun _=>funext fun _=>propext ⟨fun ⟨h⟩=>h,.mk⟩
theorem vL:aq=sj:=funext fun _=>funext fun _=>funext fun _=>funext fun _=>funext fun _=>propext ⟨fun ⟨h⟩=>h,.mk⟩
theorem Mn:sJ=uu:=funext fun _=>funext fun _=>funext fun _=>funext fun _=>funext fun _=>propext ⟨fun ⟨h⟩=>h,.mk⟩
theorem aoc (Q:(Nat→Value)→ae→Prop) (ls:List Nat) (vs:List Value) (h:ae):ax Q ls vs h=Q (kD ls vs) h:=by
 rw [Dj]
 rfl
theorem az {Q:(Nat→Value)→ae→Prop} {ls:List Nat} {vs:List Value} {h:ae} {A:Prop} (e:Q (kD ls vs) h=A):ax Q ls vs h=A:=(aoc _ _ _ _).trans e
def FH (o:ql) (g:Operand→Value) (k:Value→Prop):Prop:=
 match o with
 | .mv x=>k (g x)
 | .JX n=>k (.int .i64 n)
 | .fn f a b=>k (.func (.func f) (a.map g).toArray (b.map g).toArray)
 | o=>OP (jx o g) k
theorem UY (o:ql) (g:Operand→Value) (k:Value→Prop):FH o g k=fE (jx o g) k:=by
 unfold FH
 split
 ·rfl
 ·rfl
 ·rfl
 ·rw [Bz]
def Ly (P:Program) (o:hO) (f:Nat→Value) (h:ae) (K:Value→ae→Prop):Prop:=
 match o with
 | .p o=>FH o (ev f) fun v=>K v h
 | .l o=>OP (fD o (ev f) h) fun v=>K v h
 | .e o=>OH (fY o (ev f) h) K
 | .call g args=>aq P g (args.map (ev f)) h K
 | .lh x args=>sJ P (ev f x) (args.map (ev f)) h K
theorem aEP (P:Program) (o:hO) (f:Nat→Value) (h:ae) (K:Value→ae→Prop):Ly P o f h K=dc P o f h K:=by
 cases o <;> simp only [Ly,dc,UY,Bz,M8,vL,Mn]
def Eh (P:Program) (l:List jj) (K:(Nat→Value)→ae→Prop):(Nat→Value)→ae→Prop:=
 List.rec (motive:=fun _=>(Nat→Value)→ae→Prop) (fun f h=>K f h) (fun o _ ih f h=>Ly P o.op f h fun v h'=>ih (dK f o.dst v) h') l
theorem adG (P:Program) (l:List jj) (K:(Nat→Value)→ae→Prop):∀(f:Nat→Value) (h:ae),Eh P l K f h=xT P l K f h:=by
 induction l with
 | nil=>intro f h;rfl
 | cons o os ih=>
  intro f h
  show Ly P o.op f h (fun v h'=>Eh P os K (dK f o.dst v) h')=_
  rw [aEP,xT]
  congr 1
  funext v h'
  exact ih _ _
def Tl (P:Program) (g:Option (Nat×Bool)) (l:List jj) (K:(Nat→Value)→ae→Prop) (f:Nat→Value) (h:ae):Prop:=
 match g with
 | none=>Eh P l K f h
 | some (s,b)=>cE (f s) b (Eh P l K f h) (K (CY l f) h)
theorem az4 (P:Program) (g:Option (Nat×Bool)) (l:List jj) (K:(Nat→Value)→ae→Prop) (f:Nat→Value) (h:ae):Tl P g l K f h=tL P g l K f h:=by
 unfold Tl tL
 split <;> simp only [adG,Mo]
abbrev Xd:=List (Nat×ae)→eK→Value→ae→Prop
def Iz (P:Program) (io:hO) (pre j:Nat) (aN:List (Nat×ae)) (aG:eK) (f:Nat→Value) (h:ae) (next:Xd):Prop:=
 match io with
 | .p po=>FH po (ev f) fun v=>next aN aG v h
 | .l lo=>OP (fD lo (ev f) h) fun v=>xE pre lo f v aN∧next aN (aG++[(j,lo,f,v)]) v h
 | .e (.fl a)=>OH (fY (.fl a) (ev f) h) fun v h'=>OP (er h' v) fun u=>lP pre h' aG∧next (aN++[(j,h)]) (aG++[(j,.obj (.const v),f,u)]) v h'
 | .e eo=>OH (fY eo (ev f) h) fun v h'=>lP pre h' aG∧next (aN++[(j,h)]) aG v h'
 | .call g args=>aq P g (args.map (ev f)) h fun v h'=>lP pre h' aG∧next (aN++[(j,h)]) aG v h'
 | .lh x args=>sJ P (ev f x) (args.map (ev f)) h fun v h'=>lP pre h' aG∧next (aN++[(j,h)]) aG v h'
theorem ava (P:Program) (io:hO) (pre j:Nat) (aN:List (Nat×ae)) (aG:eK) (f:Nat→Value) (h:ae) (next:Xd):
  Iz P io pre j aN aG f h next=lC P io pre j aN aG f h next:=by
 cases io with
 | e eo=>cases eo <;> simp only [Iz,lC,Bz,M8]
 | _=>simp only [Iz,lC,UY,Bz,vL,Mn]
abbrev Xc:=List (Nat×ae)→eK→(Nat→Value)→ae→Prop
def Ef (P:Program):List km→Nat→List (Nat×ae)→eK→Xc→(Nat→Value)→ae→Prop
 | [],_,aN,aG,K,f,h=>K aN aG f h
 | o::os,j,aN,aG,K,f,h=>Iz P o.op o.pre j aN aG f h fun aN aG v h'=>Ef P os (j+1) aN aG K (dK f o.dst v) h'
theorem Qv (P:Program):∀(l:List km) (j:Nat) (aN:List (Nat×ae)) (aG:eK) (K:Xc) (f:Nat→Value) (h:ae),Ef P l j aN aG K f h=oU P l j aN aG K f h
 | [],_,_,_,_,_,_=>rfl
 | o::os,j,aN,aG,K,f,h=>by
  rw [Ef,oU,ava]
  congr 1
  funext aN aG v h'
  exact Qv P os _ _ _ _ _ _
def uF (P:Program):List (Option (Nat×Bool)×List km)→Nat→List (Nat×ae)→eK→((Nat→Value)→ae→Prop)→(Nat→Value)→ae→Prop
 | [],_,_,_,K,f,h=>K f h
 | (none,l)::gs,j,aN,aG,K,f,h=>Ef P l j aN aG (fun aN aG f h=>uF P gs (j+l.length) aN aG K f h) f h
 | (some (s,b),l)::gs,j,aN,aG,K,f,h=>
  cE (f s) b (Ef P l j aN aG (fun aN aG f h=>uF P gs (j+l.length) aN aG K f h) f h)
   (vZ l j aN aG (fun aN aG f h=>uF P gs (j+l.length) aN aG K f h) f h)
theorem IU (P:Program):∀(gs:List (Option (Nat×Bool)×List km)) (j:Nat) (aN:List (Nat×ae)) (aG:eK) (K:(Nat→Value)→ae→Prop) (f:Nat→Value) (h:ae),
  uF P gs j aN aG K f h=od P gs j aN aG K f h
 | [],_,_,_,_,_,_=>rfl
 | (none,l)::gs,j,aN,aG,K,f,h=>by
  have e:(fun aN aG f h=>uF P gs (j+l.length) aN aG K f h)=fun aN aG f h=>od P gs (j+l.length) aN aG K f h:=by
   funext a b c d;exact IU P gs _ _ _ _ _ _
  rw [uF,od,Qv,e]
 | (some (s,b),l)::gs,j,aN,aG,K,f,h=>by
  have e:(fun aN aG f h=>uF P gs (j+l.length) aN aG K f h)=fun aN aG f h=>od P gs (j+l.length) aN aG K f h:=by
   funext a b c d;exact IU P gs _ _ _ _ _ _
  rw [uF,od,Qv,e,Mo]
noncomputable def aj (P:Program) (c:fc):ar→(Nat→Value)→ae→Prop:=
 fc.rec (motive:=fun _=>ar→(Nat→Value)→ae→Prop)
  (fun K f h=>K .normal f h)
  (fun l K f h=>uF P l 0 [] [] (K .normal) f h)
  (fun g l K f h=>Tl P g l (K .normal) f h)
  (fun _ _ ia ib K f h=>ia (aF (ib K) K) f h)
  (fun ls _ ic K f h=>ax (ic K) ls (ls.map f) h)
  (fun c _ _ ia ib K f h=>aQ (ev f c) (ia K f h) (ib K f h))
  (fun id _ ic K f h=>ic (bI id K) f h)
  (fun ks ls _ ic K f h=>cJ (ls.map f) h fun L xs hx=>ax (ic (aF (fun f' aU=>ks.map f'=ks.map f∧L (ls.map f') aU) K)) (ks++ls) (ks.map f++xs) hx)
  (fun id K f h=>K (.exit id) f h)
  (fun K f h=>K .ret f h)
  (fun g ls c K f h=>BA P (ev f g) ls (ls.map f) c h (K .normal f)) c
theorem ayv (P:Program) (c:fc):aj P c=jf P c:=by
 induction c with
 | skip=>rfl
 | Ix l=>funext K f h;exact IU P l 0 [] [] (K .normal) f h
 | ops g l=>funext K f h;exact az4 P g l (K .normal) f h
 | seq a b sk tB=>
  funext K f h
  show aj P a (aF (aj P b K) K) f h=jf P a (aF (jf P b K) K) f h
  rw [sk,tB]
 | cut ls c ih=>
  funext K f h
  show ax (aj P c K) ls (ls.map f) h=BL (jf P c K) ls (ls.map f) h
  rw [ih,Dj]
 | cond c a b sk tB=>
  funext K f h
  show aQ (ev f c) (aj P a K f h) (aj P b K f h)=pI (ev f c) (jf P a K f h) (jf P b K f h)
  rw [sk,tB,Xh]
 | block id c ih=>
  funext K f h
  show aj P c (bI id K) f h=jf P c (bI id K) f h
  rw [ih]
 | loop ks ls c ih=>
  funext K f h
  show cJ (ls.map f) h (fun L xs hx=>ax (aj P c (aF (fun f' aU=>ks.map f'=ks.map f∧L (ls.map f') aU) K)) (ks++ls) (ks.map f++xs) hx)=
   AH (ls.map f) h (fun L xs hx=>jf P c (aF (fun f' aU=>ks.map f'=ks.map f∧L (ls.map f') aU) K) (kD (ks++ls) (ks.map f++xs)) hx)
  rw [ih,YK,Dj]
  rfl
 | exit id=>rfl
 | ret=>rfl
 | range g ls c=>
  funext K f h
  show BA P (ev f g) ls (ls.map f) c h (K .normal f)=vk P (ev f g) ls (ls.map f) c h (K .normal f)
  rw [YM]
def CO:List kN→(Nat→Value)→ae→(List Value→Prop)→Prop
 | [],_,_,k=>k []
 | .tmp t::rs,f,h,k=>CO rs f h fun vs=>k (f t::vs)
 | .cell agg n a::rs,f,h,k=>OP (af agg n h (f a)) fun v=>CO rs f h fun vs=>k (v::vs)
theorem Vs:∀(rs:List kN) (f:Nat→Value) (h:ae) (k:List Value→Prop),CO rs f h k=w7 rs f h k
 | [],_,_,_=>rfl
 | .tmp _::rs,f,h,k=>Vs rs f h _
 | .cell agg n a::rs,f,h,k=>by
  rw [CO,w7,Bz]
  congr 1
  funext v
  exact Vs rs f h _
def aS (rs:List kN) (K:Value→ae→Prop):ar
 | .normal,f,h=>CO rs f h fun vs=>K (pack vs) h
 | .ret,f,h=>CO rs f h fun vs=>K (pack vs) h
 | _,_,_=>False
theorem Zh (rs:List kN) (K:Value→ae→Prop):aS rs K=OW rs K:=by
 funext e f h
 cases e <;> first | rfl | exact Vs rs f h _
theorem bT {P:Program} {F:FuncId} {N:Nat} {ic:fc} {rs:List kN} {hs:Hints} {h:ae} (hc:bK P F hs=some (N,ic,rs)) {args:List Value} (ha:args.length≤N)
  {K:Value→ae→Prop} (hi:aj P ic (aS rs K) (bG args) h):aq P F args h K:=
 .mk (afk hc ha (by rw [←ayv,←Zh];exact hi))
end
section
section aFw
variable {A B : Prop} {K : Value → Prop} {K2 : Value → ae → Prop} {v : Value} {h : ae}
@[simp] theorem ah : OP (some v) K ↔ K v := ⟨fun ⟨h⟩ => h, fun h => .mk h⟩
@[simp] theorem aE : OH (some (v, h)) K2 ↔ K2 v h := ⟨fun ⟨h⟩ => h, fun h => .mk h⟩
theorem By {o:Option (Value×ae)} (ho:o=some (v,h)) (hk:K2 v h):OH o K2:=by rw [ho];exact aE.2 hk
@[simp] theorem dM : aQ (.bool true) A B ↔ A := ⟨fun ⟨h⟩ => by simpa [pI] using h, fun h => .mk (by simpa [pI] using h)⟩
@[simp] theorem dP : aQ (.bool false) A B ↔ B := ⟨fun ⟨h⟩ => by simpa [pI] using h, fun h => .mk (by simpa [pI] using h)⟩
theorem uf {b:Bool} (h1:b=true→A) (h2:b=false→B):aQ (.bool b) A B:=by cases b <;> simp [h1,h2]
@[simp] theorem cj {p : Prop} [Decidable p] : aQ (.bool (decide p)) A B ↔ (p → A) ∧ (¬ p → B) := by by_cases hp : p <;> simp [hp]
@[simp] theorem Gp {p : Prop} [Decidable p] : aQ (.bool (!decide p)) A B ↔ (¬ p → A) ∧ (p → B) := by by_cases hp : p <;> simp [hp]
@[simp] theorem iY : cE (.bool true) true A B ↔ A := ⟨fun ⟨h⟩ => by simpa [kP] using h, fun h => .mk (by simpa [kP] using h)⟩
@[simp] theorem fT : cE (.bool true) false A B ↔ B := ⟨fun ⟨h⟩ => by simpa [kP] using h, fun h => .mk (by simpa [kP] using h)⟩
@[simp] theorem kZ : cE (.bool false) true A B ↔ B := ⟨fun ⟨h⟩ => by simpa [kP] using h, fun h => .mk (by simpa [kP] using h)⟩
@[simp] theorem eJ : cE (.bool false) false A B ↔ A := ⟨fun ⟨h⟩ => by simpa [kP] using h, fun h => .mk (by simpa [kP] using h)⟩
@[simp] theorem Mq {b : Bool} : cE undef b A B ↔ B := ⟨fun ⟨h⟩ => by simpa [kP, undef] using h, fun h => .mk (by simpa [kP, undef] using h)⟩
@[simp] theorem dZ (a b : Value) : ck (.bool true) a b = some a := rfl
@[simp] theorem c8 (a b : Value) : ck (.bool false) a b = some b := rfl
theorem aq.mono {P:Program} {F:FuncId} {args:List Value} {K K':Value→ae→Prop} (hc:aq P F args h K) (hk:∀v h',K v h'→K' v h'):aq P F args h K':=by
 rw [vL] at hc⊢
 exact hc.mono hk
end aFw
abbrev I (n:Int):Value:=.int .i64 n
abbrev B (b:Bool):Value:=.bool b
abbrev cv (c:UInt8):Value:=.int .u8 (c.toNat:Int)
abbrev pt (i o:Nat):Value:=.pointer (some ⟨i,o,none⟩)
theorem wrap64 {n:Int} (h1: -9223372036854775808≤n) (h2:n<9223372036854775808):IntKind.wrap .i64 n=n:=by
 have e:IntKind.wrap .i64 n=if n%18446744073709551616≥9223372036854775808 then n%18446744073709551616-18446744073709551616 else n%18446744073709551616:=by
  simp [IntKind.wrap,IntKind.bits,IntKind.signed]
 rw [e]
 split <;> omega
theorem anq {n:Int} (h1:0≤n) (h2:n<256):IntKind.wrap .u8 n=n:=by
 have e:IntKind.wrap .u8 n=n%256:=by
  simp [IntKind.wrap,IntKind.bits,IntKind.signed]
 rw [e]
 omega
section ints
variable (k : IntKind) (a b : Int)
@[simp] theorem cN : ai .lss (.int k a) (.int k b) = some (.bool (decide (a < b))) := by simp [ai, gY]
@[simp] theorem GZ : ai .leq (.int k a) (.int k b) = some (.bool (decide (a ≤ b))) := by simp [ai, gY]
@[simp] theorem gj : ai .gtr (.int k a) (.int k b) = some (.bool (decide (b < a))) := by simp [ai, gY]
@[simp] theorem nA : ai .geq (.int k a) (.int k b) = some (.bool (decide (b ≤ a))) := by simp [ai, gY]
@[simp] theorem jo : ai .eql (.int k a) (.int k b) = some (.bool (decide (a = b))) := by simp [ai, gY]
@[simp] theorem qo : ai .neq (.int k a) (.int k b) = some (.bool (!decide (a = b))) := by simp [ai, gY]
@[simp] theorem cA : ai .add (.int k a) (.int k b) = some (.int k (k.wrap (a + b))) := by simp [ai, gY]
@[simp] theorem gU : ai .sub (.int k a) (.int k b) = some (.int k (k.wrap (a - b))) := by simp [ai, gY]
@[simp] theorem vP : ai .mul (.int k a) (.int k b) = some (.int k (k.wrap (a * b))) := by simp [ai, gY]
@[simp] theorem oI (b : Bool) : gZ .not (.bool b) = some (.bool !b) := rfl
@[simp] theorem aGH : gZ .neg (.int k a) = some (.int k (k.wrap (0 - a))) := rfl
@[simp] theorem lj (k' : IntKind) : dm k' (.int k a) = some (.int k' (k'.wrap a)) := rfl
@[simp] theorem D4 (n x y : Bool) : uR n (.bool x) (.bool y) = some (.bool (if n then !(x == y) else x == y)) := rfl
@[simp] theorem eL (i : Nat) (vs : Array Value) : cf i (.tuple vs) = vs[i]? := rfl
end ints
section strings
variable (a b : List UInt8)
@[simp] theorem Zm (l : List UInt8) : bytes ⟨l.toArray⟩ = l := arq l
@[simp] theorem uW : jP (S a) = some (I a.length) := by simp [jP, S]
@[simp] theorem GY : ai .eql (S a) (S b) = some (.bool (decide (a = b))) := by simp [ai, As, S]
@[simp] theorem Zf : ai .neq (S a) (S b) = some (.bool (!decide (a = b))) := by simp [ai, As, S]
theorem zh (h:a.length+b.length≤maxLen):ai .add (S a) (S b)=some (S (a++b)):=by
 simp only [ai,As,S,Zm,if_pos h]
theorem JI {i:Nat} (h:i<a.length) (k:IntKind):nh (S a) (.int k (i:Int))=some (cv a[i]):=by simp [nh,S,h]
theorem amR {n:Nat} (h:n≤a.length) (k:IntKind):nJ (S a) none (some (.int k (n:Int)))=some (S (a.take n)):=by simp [nJ,S,sf,tI,h]
theorem Lr {n:Nat} (h:n≤a.length) (k:IntKind):nJ (S a) (some (.int k (n:Int))) none=some (S (a.drop n)):=by simp [nJ,S,sf,tI,h]
end strings
theorem azv {σ:Type} {init:List Value} {h:ae} {Q:(List Value→ae→Prop)→List Value→ae→Prop} (enc:σ→List Value) (hp:σ→ae) (J:σ→Prop) (μ:σ→Nat) (s0:σ)
  (e0:enc s0=init) (eh:hp s0=h) (j0:J s0) (hr:∀s,J s→Q (fun ys hy=>∃s',enc s'=ys∧hp s'=hy∧J s'∧μ s'<μ s) (enc s) (hp s)):cJ init h Q:=by
 refine .mk ?_
 have least:∀ys hy,(∃s,enc s=ys∧hp s=hy∧J s)→∃m,(∃s,enc s=ys∧hp s=hy∧J s∧μ s=m)∧∀s,enc s=ys→hp s=hy→J s→m≤μ s:=by
  rintro ys hy ⟨s,h1,h2,h3⟩
  have key:∀n,(∃s,enc s=ys∧hp s=hy∧J s∧μ s=n)→∃m,(∃s,enc s=ys∧hp s=hy∧J s∧μ s=m)∧∀s,enc s=ys→hp s=hy→J s→m≤μ s:=by
   intro n
   induction n using Nat.strongRecOn with
   | _ n ih=>
    intro hn
    by_cases aB:∃s,enc s=ys∧hp s=hy∧J s∧μ s<n
    ·obtain ⟨s',a,b,c,d⟩:=aB
     exact ih (μ s') d ⟨s',a,b,c,rfl⟩
    ·exact ⟨n,hn,fun s' a b c=>le_of_not_lt fun d=>aB ⟨s',a,b,c,d⟩⟩
  exact key _ ⟨s,h1,h2,h3,rfl⟩
 classical
 refine ⟨fun ys hy=>∃s,enc s=ys∧hp s=hy∧J s,fun ys hy=>if hJ:∃s,enc s=ys∧hp s=hy∧J s then Classical.choose (least ys hy hJ) else 0,⟨s0,e0,eh,j0⟩,?_⟩
 rintro xs hx hJ
 have Ah:=choose_spec (least xs hx hJ)
 simp only [dif_pos hJ]
 generalize Classical.choose (least xs hx hJ)=m at Ah
 obtain ⟨⟨s,a,b,c,d⟩,_⟩:=Ah
 have:=hr s c
 rw [a,b] at this
 have he:(fun (ys:List Value) (hy:ae)=>(∃s,enc s=ys∧hp s=hy∧J s)∧(if hJ:∃s,enc s=ys∧hp s=hy∧J s then Classical.choose (least ys hy hJ) else 0)<m)=
   fun ys hy=>∃s',enc s'=ys∧hp s'=hy∧J s'∧μ s'<μ s:=by
  funext ys hy
  apply propext
  constructor
  ·rintro ⟨B1,aB⟩
   rw [dif_pos B1] at aB
   obtain ⟨⟨s',a',b',c',d'⟩,_⟩:=choose_spec (least ys hy B1)
   exact ⟨s',a',b',c',by rw [d',d];exact aB⟩
  ·rintro ⟨s',a',b',c',d'⟩
   refine ⟨⟨s',a',b',c'⟩,?_⟩
   rw [dif_pos ⟨s',a',b',c'⟩]
   have:=(choose_spec (least ys hy ⟨s',a',b',c'⟩)).2 s' a' b' c'
   omega
 rw [he]
 exact this
theorem dL {σ:Type} {init:List Value} {h:ae} {Q:(List Value→ae→Prop)→List Value→ae→Prop} (enc:σ→List Value) (hp:σ→ae) (J:σ→Prop) (μ:σ→Nat) (s0:σ)
  (e0:enc s0=init) (eh:hp s0=h) (j0:J s0) (hr:∀s,J s→∀L:List Value→ae→Prop,(∀s',J s'→μ s'<μ s→L (enc s') (hp s'))→Q L (enc s) (hp s)):cJ init h Q:=
 azv enc hp J μ s0 e0 eh j0 fun s hs=>hr s hs _ fun s' h1 h2=>⟨s',rfl,rfl,h1,h2⟩
def EX (h h':ae):Prop:=h.length≤h'.length∧∀i,i<h.length→h'[i]?=h[i]?
theorem EX.refl (h:ae):EX h h:=⟨le_refl _,fun _ _=>rfl⟩
theorem EX.trans {a b c:ae} (h:EX a b) (k:EX b c):EX a c:=⟨Nat.le_trans h.1 k.1,fun i hi=>(k.2 i (Nat.lt_of_lt_of_le hi h.1)).trans (h.2 i hi)⟩
theorem EX.append (h g:ae):EX h (h++g):=⟨by simp,fun i hi=>getElem?_append_left hi⟩
theorem EX.push {a h:ae} (k:EX a h) (g:ae):EX a (h++g):=k.trans (.append h g)
theorem EX.set {a h:ae} (k:EX a h) {i:Nat} (hi:a.length≤i) (o:ak):EX a (h.set i o):=⟨by simpa using k.1,fun j hj=>by rw [getElem?_set_ne (by omega)];exact k.2 j hj⟩
theorem EX.get {a h:ae} (k:EX a h) {i:Nat} {o:ak} (hi:a[i]?=some o):h[i]?=some o:=by rw [k.2 i (bL hi).1];exact hi
theorem EX.cells {a h:ae} (k:EX a h) {i:Nat} {xs:List Value} (hi:aR a i=some xs):aR h i=some xs:=by
 unfold aR at hi⊢
 have aB:i<a.length:=by
  apply byContradiction
  intro hc
  rw [getElem?_eq_none (le_of_not_lt hc)] at hi
  simp at hi
 rw [k.2 i aB]
 exact hi
def fL:Value→Bool
 | .bool _ | .int .. | .string _ | .nilFunc | .nilIface=>true
 | .pointer none | .map none=>true
 | .slice none 0 0=>true
 | _=>false
theorem fL.rel {ρ av:aI} {v v':Value} (h:fL v=true) (hv:ay ρ v v'):ay av v v':=by
 unfold fL at h
 split at h
 ·cases hv;exact .bool _
 ·cases hv;exact .int _ _
 ·cases hv;exact .string _
 ·cases hv;exact .nilFunc
 ·cases hv;exact .nilIface
 ·cases hv;exact .ve
 ·cases hv;exact .u9
 ·cases hv;exact .q7
 ·cases h
def oQ (V:Nat→Value):Prop:=∀(ρ av:aI) (i j:Nat) (v':Value),av j=ρ i→ay ρ (V i) v'→ay av (V j) v'
theorem oQ.fL {v:Value} (h:fL v=true):oQ fun _=>v:=fun _ _ _ _ _ _ hv=>fL.rel h hv
theorem oQ.pt (o:Nat):oQ fun i=>pt i o:=by
 intro ρ av i j v' e hv
 cases hv with
 | ptr hr=>exact .ptr (by rw [e];exact hr)
theorem oQ.sl (e:TypeId) (o n:Nat):oQ fun i=>sl e i o n:=by
 intro ρ av i j v' he hv
 cases hv with
 | slice hr a b c d=>exact .slice (by rw [he];exact hr) a b c d
inductive yU:List (Nat→Value)→Prop
 | nil:yU []
 | cons {V:Nat→Value} {l:List (Nat→Value)}:oQ V→yU l→yU (V::l)
theorem yU.rel {l:List (Nat→Value)} (h:yU l) {ρ av:aI} {i j:Nat} (e:av j=ρ i):∀{ys:List Value},bF ρ (l.map (· i)) ys→bF av (l.map (· j)) ys:=by
 induction h with
 | nil=>intro ys hv;cases hv;exact .nil
 | cons hV _ ih=>intro ys hv;cases hv with | cons a b=>exact .cons (hV _ _ _ _ _ e a) (ih b)
theorem oQ.tuple {l:List (Nat→Value)} (h:yU l):oQ fun i=>.tuple (l.map (· i)).toArray:=by
 intro ρ av i j v' e hv
 cases hv with
 | tuple hs hr=>
  rename_i ft
  have:=h.rel e (bF.tU hs hr)
  have:=ay.sA this
  simpa using this
theorem oQ.agg {l:List (Nat→Value)} (h:yU l) (hc:∀j,∀V∈l,gN (V j)=true):oQ fun i=>.agg (l.map (· i)).toArray:=by
 intro ρ av i j v' e hv
 cases hv with
 | agg hs h1 hr=>
  rename_i ft
  have:=h.rel e (bF.tU hs hr)
  have:=ay.Dx this (by
   intro x hx
   simp only [mem_map] at hx
   obtain ⟨V,hV,rfl⟩:=hx
   exact hc j V hV)
  simpa using this
section gc
variable {P : Program} {F : FuncId} {args : List Value} {h : ae}
def wV:ak→Bool
 | .ro _ xs | .arr _ xs=>xs.all fL
 | .smap es=>es.all fun p=>fL p.2
 | .eP _ es=>es.all fun p=>fL p.2
 | .df _ _ es=>es.all fun p=>fL p.2.2
 | _=>false
theorem wV.rel {ρ av:aI} {w:World} {r:RI} {o:ak} (hp:wV o=true) (h:lJ ρ w r o):lJ av w r o:=by
 have cells:∀{c:Array Value} {sh:Nat} {xs:List Value},xs.all fL=true→fS ρ c sh xs→fS av c sh xs:=by
  intro c sh xs hs hc j x hj
  obtain ⟨h1,y,hy,hr⟩:=hc j x hj
  rw [all_eq_true] at hs
  exact ⟨h1,y,hy,fL.rel (hs x (mem_of_getElem? hj)) hr⟩
 cases o with
 | ro e xs=>obtain ⟨h1,c,t,fr,h2,h3,h4⟩:=h;exact ⟨h1,c,t,fr,h2,h3,cells hp h4⟩
 | arr e xs=>obtain ⟨h1,h0,c,h2,h3,h4⟩:=h;exact ⟨h1,h0,c,h2,h3,cells hp h4⟩
 | smap es=>
  obtain ⟨aH,clock,h1,h2,h3⟩:=h
  refine ⟨aH,clock,h1,h2,fun j k v hj=>?_⟩
  obtain ⟨en,e1,e2,e3⟩:=h3 j k v hj
  simp only [wV,all_eq_true] at hp
  exact ⟨en,e1,e2,fL.rel (hp (k,v) (mem_of_getElem? hj)) e3⟩
 | eP kd es=>
  obtain ⟨aH,clock,h1,h2,h3⟩:=h
  refine ⟨aH,clock,h1,h2,fun j k v hj=>?_⟩
  obtain ⟨en,e1,e2,e3⟩:=h3 j k v hj
  simp only [wV,all_eq_true] at hp
  exact ⟨en,e1,e2,fL.rel (hp (k,v) (mem_of_getElem? hj)) e3⟩
 | df g c es=>
  obtain ⟨h0,aH,h1,h2,h3⟩:=h
  refine ⟨h0,aH,h1,h2,fun j b k v hj=>?_⟩
  obtain ⟨e0,en,e1,e2,zt,e3⟩:=h3 j b k v hj
  simp only [wV,all_eq_true] at hp
  exact ⟨e0,en,e1,e2,zt,fL.rel (hp (b,k,v) (mem_of_getElem? hj)) e3⟩
 | iter m s n l=>cases hp
 | loop c ls vs=>cases hp
 | dead=>cases hp
theorem auI {K:Value→ae→Prop} {v:Value} {h':ae} (hV:oQ fun _=>v) (hc:xt P F args [] v h') (ha:args.all fL=true) (hk:K v h):aq P F args h K:=by
 rw [vL]
 refine ⟨v,h,?_,hk⟩
 intro ρ args' w hv H
 have Ai:∀{xs ys:List Value},xs.all fL=true→bF ρ xs ys→bF (fun _=>none) xs ys:=by
  intro xs ys hs hr
  induction hr with
  | nil=>exact .nil
  | cons a _ ih=>simp only [List.all_cons,and_eq_true] at hs;exact .cons (fL.rel hs.1 a) (ih hs.2)
 have H0:aX P (fun _=>none) [] w:=⟨fun i r hi=>(by cases hi),fun i j r s hi=>(by cases hi),fun i r hi=>(by cases hi)⟩
 refine (hc _ args' w (Ai ha hv) H0).mono ?_
 rintro e w' ⟨v',av,rfl,lZ,H',T⟩
 have dR:∀b,b<w.heap.size→w'.heap[b]?=w.heap[b]?:=fun b hb=>T.iC b hb fun j s hj=>(by cases hj)
 refine ⟨v',ρ,rfl,hV av ρ h'.length h.length v' (by rw [H.none,H'.none]) lZ,⟨?_,H.inj,H.aV⟩,?_⟩
 ·intro k r hr
  obtain ⟨o,ho,nH⟩:=H.obj k r hr
  refine ⟨o,ho,?_⟩
  by_cases hd:o=.dead
  ·subst hd;trivial
  ·exact nH.mono (.refl _) (dR _ (CF H hr ⟨o,ho,hd⟩))
 ·exact {
   ext:=.refl _
   len:=le_refl _
   jN:=fun k r hr=>H.lt hr
   kinds:=fun _ _ h=>h
   fresh:=fun k r h1 h2=>by rw [h1] at h2;cases h2
   iX:=T.iX
   iC:=fun b hb _=>dR b hb
   os:=T.os
   tape:=T.tape
   output:=T.output }
end gc
end
section
open Go.ChangeShapes Go.WideShapes Go.ChangeAt Go.RowKit
def su (h:ae):Prop:=∀i,¬cC h i
section
variable {P : Program} {W : World} {ρ : aI} {h : ae}
theorem aX.start (P:Program) (W:World):aX P (fun _=>Option.none) [] W:=⟨fun i r hi=>(by cases hi),fun i j r s hi=>(by cases hi),fun i r hi=>(by cases hi)⟩
theorem su.start:su []:=fun i hm=>by unfold cC at hm;simp at hm
theorem aX.YV (H:aX P ρ h W) (hr:su h) {r:RI} (he:r.aV=P.cellsOf r.elem) {o:ak} (dB:o=.dead∨∃e xs,o=.ro e xs) (ho:lJ (ρ.add h.length r) W r o):
  aX P (ρ.add h.length r) (h++[o]) W∧su (h++[o])∧ρ.le (ρ.add h.length r):=by
 have mG:su (h++[o]):=by
  intro i hm
  unfold cC at hm
  by_cases hi:i<h.length
  ·rw [getElem?_append_left hi] at hm
   exact hr i hm
  ·by_cases he:i=h.length
   ·subst he
    have e:(h++[o])[h.length]?=some o:=by simp
    rw [e] at hm
    rcases dB with rfl | ⟨_,_,rfl⟩ <;> rcases hm with ⟨_,_,h1⟩ | ⟨_,h1⟩ | ⟨_,_,_,h1⟩ | ⟨_,_,h1⟩ | ⟨_,_,_,h1⟩ | ⟨_,_,_,_,h1⟩ <;> cases h1
   ·rw [getElem?_eq_none (by simp;omega)] at hm
    rcases hm with ⟨_,_,h1⟩ | ⟨_,h1⟩ | ⟨_,_,_,h1⟩ | ⟨_,_,h1⟩ | ⟨_,_,_,h1⟩ | ⟨_,_,_,_,h1⟩ <;> cases h1
 refine ⟨⟨?_,fun i j r s _ _ _ hm=>absurd hm (mG i),?_⟩,mG,aI.wO H.none⟩
 ·intro i s hi
  unfold aI.add at hi
  split at hi
  ·rename_i e
   subst e
   cases hi
   exact ⟨o,by simp,ho⟩
  ·obtain ⟨o',h1,h2⟩:=H.obj i s hi
   exact ⟨o',by rw [getElem?_append_left (H.lt hi)];exact h1,h2.mono (aI.wO H.none) rfl⟩
 ·intro i s hi
  unfold aI.add at hi
  split at hi
  ·cases hi;exact he
  ·exact H.aV i s hi
theorem fL.self {v:Value} (hs:fL v=true) (ρ:aI):ay ρ v v:=by
 unfold fL at hs
 split at hs
 ·exact .bool _
 ·exact .int _ _
 ·exact .string _
 ·exact .nilFunc
 ·exact .nilIface
 ·exact .ve
 ·exact .u9
 ·exact .q7
 ·cases hs
theorem fL.cell {v:Value} (hs:fL v=true):gN v=true:=by
 unfold fL at hs
 split at hs <;> first | rfl | cases hs
variable {H : Type} {enc : TypeId × Value → H}
theorem addr_eq {a:Addr} (hs:a.spot=none) (n:Nat):a.add n=⟨a.block,a.off+n,none⟩:=by
 obtain ⟨b,o,s⟩:=a
 simp only at hs
 subst hs
 unfold Addr.add
 split
 ·rename_i h;subst h;rfl
 ·rfl
theorem avW {t e:TypeId} (ht:P.underlying t=some (.slice e)) (iF:P.cellsOf e≠0)
  (flat:∀n cs y,DataW.trod enc P W 0 (fun _=>true) true n e cs=some y→cs.length=P.cellsOf e∧∀x∈cs,fL x=true)
  {fuel:Nat} {v:Value} {x:DataW H×List MemPlace} (hd:DataW.trod enc P W 0 (fun _=>true) true fuel t [v]=some x) (aC:∀(a:Addr) (len cap:Nat),v=.slice (some a) len cap→a.spot=none) (HR:aX P ρ h W) (mG:su h):
  ∃(av:aI) (g:ae) (v':Value) (n:Nat) (xs:List Value),ρ.le av∧aX P av (h++g) W∧su (h++g)∧ay av v' v∧gN v'=true∧
   ((v'=.slice none 0 0∧n=0)∨∃i,v'=sl e i 0 n∧(n=0∨aR (h++g) i=some xs))∧xs.length=n*P.cellsOf e∧(∀y∈xs,fL y=true)∧
   ∀i,i<n→∃m y,DataW.trod enc P W 0 (fun _=>true) true m e ((xs.drop (i*P.cellsOf e)).take (P.cellsOf e))=some y:=by
 rcases DataW.trod_slice ht hd with ⟨h1,_⟩ | ⟨a,len,cap,aF3,rest,n,_,h1,_,hb,hl,hm,hlen,I9,hsp,_⟩
 ·obtain rfl:v=.slice none 0 0:=by simpa using h1
  exact ⟨ρ,[],.slice none 0 0,0,[],.refl _,by simpa using HR,by simpa using mG,.q7,rfl,.inl ⟨rfl,rfl⟩,by simp,by simp,fun i hi=>by omega⟩
 ·obtain rfl:v=.slice (some a) len cap:=by simpa using h1
  have Co:a.spot=none:=aC a len cap rfl
  obtain ⟨hrl,hr⟩:=hsp rfl
  -- every aF2 cells lie there
  have each:∀i,i<cap→∃cs y,W.cells? 0 (a.add (i*P.cellsOf e)) (P.cellsOf e)=some cs∧DataW.trod enc P W 0 (fun _=>true) true n e cs=some y:=by
   intro i hi
   have kQ:∃y,(W.cells? 0 (a.add (i*P.cellsOf e)) (P.cellsOf e)).bind (DataW.trod enc P W 0 (fun _=>true) true n e)=some y:=by
    by_cases b6:i<len
    ·rw [I9 i b6,getElem?_eq_getElem (by omega)]
     exact ⟨_,rfl⟩
    ·have:=hr (i-len) (by omega)
     rw [show len+(i-len)=i by omega] at this
     rw [this,getElem?_eq_getElem (by omega)]
     exact ⟨_,rfl⟩
   obtain ⟨y,hy⟩:=kQ
   rw [Option.bind_eq_some_iff] at hy
   obtain ⟨cs,h1,h2⟩:=hy
   exact ⟨cs,y,h1,h2⟩
  by_cases zJ:cap=0
  ·subst zJ
   obtain rfl:len=0:=by omega
   obtain ⟨H',RG,hle⟩:=HR.YV mG (r:=⟨a.block,a.off,e,P.cellsOf e,a.off⟩) rfl (.inl rfl) trivial
   refine ⟨_,[.dead],sl e h.length 0 0,0,[],hle,H',RG,?_,rfl,.inr ⟨_,rfl,.inl rfl⟩,by simp,by simp,fun i hi=>by omega⟩
   obtain ⟨ab,ao,vO⟩:=a
   simp only at Co
   subst Co
   exact ay.slice (ρ:=ρ.add h.length ⟨ab,ao,e,P.cellsOf e,ao⟩) (i:=h.length) (o:=0) (n:=0) (o':=ao) (c':=0) (r:=⟨ab,ao,e,P.cellsOf e,ao⟩) (by simp [aI.add]) (.inl rfl) (le_refl _) (by unfold maxLen;omega) (by simp)
  ·have Cb:0<P.cellsOf e:=by omega
   -- gv block
   have awP:∃c tt fr,W.heap[a.block]?=some (.cells c tt fr):=by
    obtain ⟨cs,y,h1,h2⟩:=each 0 (by omega)
    obtain ⟨_,g2,g3⟩:=World.cells?_some h1
    have:=g3 0 Cb
    rw [Nat.zero_mul,addr_eq Co 0,addr_eq rfl 0,getElem?_eq_getElem (by omega)] at this
    unfold World.cell? at this
    split at this
    ·rename_i c tt fr hh;exact ⟨c,tt,fr,hh⟩
    ·cases this
   obtain ⟨c,tt,fr,B8⟩:=awP
   have get:∀i cs,W.cells? 0 (a.add (i*P.cellsOf e)) (P.cellsOf e)=some cs→∀j,j<P.cellsOf e→c[a.off+(i*P.cellsOf e+j)]?=cs[j]?:=by
    intro i cs h1 j hj
    obtain ⟨_,g2,g3⟩:=World.cells?_some h1
    have:=g3 j hj
    rw [addr_eq Co,addr_eq rfl] at this
    simp only [World.cell?,B8] at this
    simpa [Nat.add_assoc] using this
   have here:∀j,j<cap*P.cellsOf e→∃y,c[a.off+j]?=some y∧fL y=true:=by
    intro j hj
    have hi:j / P.cellsOf e<cap:=(Nat.div_lt_iff_lt_mul Cb).2 hj
    obtain ⟨cs,y,h1,h2⟩:=each _ hi
    obtain ⟨f1,f2⟩:=flat n cs y h2
    have oY:j%P.cellsOf e<P.cellsOf e:=Nat.mod_lt _ Cb
    have:=get _ cs h1 (j%P.cellsOf e) oY
    rw [show j / P.cellsOf e*P.cellsOf e+j%P.cellsOf e=j by rw [Nat.mul_comm];exact Nat.div_add_mod j _] at this
    rw [this,getElem?_eq_getElem (by omega)]
    exact ⟨_,rfl,f2 _ (List.getElem_mem _)⟩
   let xs:=(List.range (len*P.cellsOf e)).map fun j=>c.getD (a.off+j) Go.undef
   have iz:xs.length=len*P.cellsOf e:=by simp [xs]
   have Jg:len*P.cellsOf e≤cap*P.cellsOf e:=Nat.mul_le_mul_right _ hl
   have R5:∀j,j<len*P.cellsOf e→xs[j]?=c[a.off+j]?:=by
    intro j hj
    obtain ⟨y,h1,_⟩:=here j (by omega)
    simp [xs,hj,h1]
   have pV:∀y∈xs,fL y=true:=by
    intro y hy
    obtain ⟨j,hj⟩:=List.getElem?_of_mem hy
    have aB:j<len*P.cellsOf e:=by have:=(bL hj).1;omega
    obtain ⟨z,h1,h2⟩:=here j (by omega)
    rw [R5 j aB,h1] at hj
    cases hj
    exact h2
   have axV:a.off+cap*P.cellsOf e≤c.size:=by
    have aGn:0<cap*P.cellsOf e:=Nat.mul_pos (by omega) Cb
    obtain ⟨y,h1,_⟩:=here (cap*P.cellsOf e-1) (by omega)
    have:=(Array.getElem?_eq_some_iff.1 h1).1
    omega
   obtain ⟨H',RG,hle⟩:=HR.YV mG (r:=⟨a.block,a.off,e,P.cellsOf e,c.size⟩) rfl (.inr ⟨e,xs,rfl⟩) ⟨rfl,c,tt,fr,B8,rfl,fun j y hj=>by
    have aB:j<len*P.cellsOf e:=by have:=(bL hj).1;omega
    rw [R5 j aB] at hj
    obtain ⟨z,h1,h2⟩:=here j (by omega)
    rw [h1] at hj
    cases hj
    exact ⟨fL.cell h2,_,h1,fL.self h2 _⟩⟩
   refine ⟨_,[.ro e xs],sl e h.length 0 len,len,xs,hle,H',RG,?_,rfl,.inr ⟨_,rfl,.inr (by simp [aR])⟩,iz,pV,?_⟩
   ·obtain ⟨ab,ao,vO⟩:=a
    simp only at Co
    subst Co
    exact ay.slice (ρ:=ρ.add h.length ⟨ab,ao,e,P.cellsOf e,c.size⟩) (i:=h.length) (o:=0) (n:=len) (o':=ao) (c':=cap) (r:=⟨ab,ao,e,P.cellsOf e,c.size⟩) (by simp [aI.add]) (.inl rfl) hl hm axV
   ·intro i hi
    obtain ⟨cs,y,h1,h2⟩:=each i (by omega)
    refine ⟨n,y,?_⟩
    have fO:=(flat n cs y h2).1
    have Rl:(i+1)*P.cellsOf e≤len*P.cellsOf e:=Nat.mul_le_mul_right _ hi
    rw [Nat.add_mul,Nat.one_mul] at Rl
    have:(xs.drop (i*P.cellsOf e)).take (P.cellsOf e)=cs:=by
     apply List.ext_getElem?
     intro j
     rw [List.getElem?_take]
     by_cases hj:j<P.cellsOf e
     ·rw [if_pos hj,List.getElem?_drop,R5 _ (by omega),get i cs h1 j hj]
     ·rw [if_neg hj,getElem?_eq_none (by omega)]
    rw [this]
    exact h2
theorem avV {t e:TypeId} (ht:P.underlying t=some (.slice e)) (iF:P.cellsOf e≠0)
  (flat:∀n cs y,DataW.trod enc P W 0 (fun _=>true) true n e cs=some y→cs.length=P.cellsOf e∧∀x∈cs,fL x=true)
  {fuel b:Nat} {v:Value} {x:DataW H×List MemPlace} (hd:DataW.trod enc P W 0 (fun _=>true) true fuel t [v]=some x) (aC:Cell.okWide P W .any b t v) (HR:aX P ρ h W) (mG:su h):
  ∃(av:aI) (g:ae) (v':Value) (n:Nat) (xs:List Value),ρ.le av∧aX P av (h++g) W∧su (h++g)∧ay av v' v∧gN v'=true∧
   ((v'=.slice none 0 0∧n=0)∨∃i,v'=sl e i 0 n∧(n=0∨aR (h++g) i=some xs))∧xs.length=n*P.cellsOf e∧(∀y∈xs,fL y=true)∧
   ∀i,i<n→∃m y,DataW.trod enc P W 0 (fun _=>true) true m e ((xs.drop (i*P.cellsOf e)).take (P.cellsOf e))=some y:=by
 refine avW ht iF flat hd (fun a len cap hv=>?_) HR mG
 subst hv
 simp only [Cell.okWide,ht,Cell.ok] at aC
 exact aC.2.2.2.1
theorem anf (hl:laidOutB P=true) {W':World} (hb:Below W.heap.size W W'):∀{ts:List TypeId} {vs:List Value} {ds:List (DataW H)} {p:List MemPlace},(∀t∈ts,P.readableRec t=true∧t<P.types.size)→
  DataW.TrodAll enc P W 0 (fun _=>true) true ts vs ds p→(∀x∈p,x.block<W.heap.size)→DataW.TrodAll enc P W' 0 (fun b=>decide (b<W.heap.size)) true ts vs ds p
 | [],vs,ds,p,_,h,_=>by
  obtain ⟨rfl,rfl,rfl⟩:=trodAll_nil h
  exact trodAll_mk0
 | t::ts,vs,ds,p,hr,h,aB=>by
  obtain ⟨v,jS,d,ds',a,b,rfl,rfl,rfl,h1,h2⟩:=trodAll_cons h
  exact trodAll_cons_mk (Below.trod hl (hr t (by simp)).1 (hr t (by simp)).2 h1 hb fun x hx=>aB x (by simp [hx]))
   (anf hl hb (fun t ht=>hr t (by simp [ht])) h2 fun x hx=>aB x (by simp [hx]))
theorem aAk (hl:laidOutB P=true) {f:Func} {s:ChangeSpec} {t4:TypeId} {W':World} {args:Array Value} {ds gs:List (DataW H)} {before:List MemPlace} (hW:DataW.Whole enc P f.params.toList s.vars false W args.toList ds gs before)
  (hv:s.vars=[]) (ht4:P.underlying t4=some .bool) (hr:f.resultTypes=#[t4]) (hfn:∀QG,QG=[]→s.fn H (ds++QG)={ results:=[.lit (.bool true)],args:=ds })
  (axJ:∀t∈f.params.toList,P.readableRec t=true∧t<P.types.size) (hb:Below W.heap.size W W'):s.post enc P f false true false false W args (.bool true) W':=by
 have I0:=hW
 obtain ⟨p,q,hA,hV,rfl,_,_⟩:=hW
 rw [hv] at hV
 obtain ⟨rfl,rfl⟩:=trodVars_none hV
 have aB:∀x∈p,x.block<W.heap.size:=fun x hx=>I0.lt x (by simp [hx])
 have e:=hfn [] rfl
 refine ⟨ds,[],p++[],[],p,[],I0,?_,?_,?_,hb.frame _,fun h=>by cases h⟩
 ·rw [e,hr]
  exact trodAll_mk1 (shut_bool ht4 true)
 ·rw [e]
  exact anf hl hb axJ hA aB
 ·rw [e,hv]
  rfl
end
end
section
theorem AY (k:IntKind) (a b:Nat) (hb:b≠0):ai .rem (.int k (a:Int)) (.int k (b:Int))=some (.int k ((a%b:Nat):Int)):=by
 have h:¬((b:Int)=0):=by omega
 simp only [ai,gY,if_true,if_neg h]
 congr 2
structure NS (h:ae) (v:Value) (k:IntKind) (ns:List Int):Prop where
 len:bc v=some (I ns.length)
 get:∀i (hi:i<ns.length),∃b o,aY 1 v (I i)=some (pt b o)∧af false 1 h (pt b o)=some (.int k ns[i])
 le:ns.length≤maxLen
theorem azt {h h':ae} (k:EX h h') {agg:Bool} {n:Nat} {a v:Value} (hl:af agg n h a=some v):af agg n h' a=some v:=by
 unfold af at hl⊢
 split at hl
 ·rename_i i o
  cases hc:aR h i with
  | none=>rw [hc] at hl;cases hl
  | some xs=>rw [hc] at hl;rw [k.cells hc];exact hl
 ·cases hl
theorem NS.mono {h h':ae} {v:Value} {k:IntKind} {ns:List Int} (e:EX h h') (p:NS h v k ns):NS h' v k ns:=
 ⟨p.len,fun j hj=>let ⟨i,o,a,b⟩:=p.get j hj;⟨i,o,a,azt e b⟩,p.le⟩
theorem NS.nil (h:ae) (k:IntKind):NS h (.slice none 0 0) k []:=⟨rfl,fun i hi=>by simp at hi,by simp⟩
theorem NS.sl {h:ae} {e:TypeId} {i:Nat} {k:IntKind} {ns:List Int} (hc:ns=[]∨aR h i=some (ns.map (Value.int k))) (hl:ns.length≤maxLen):NS h (sl e i 0 ns.length) k ns:=by
 refine ⟨rfl,fun j hj=>⟨i,j,?_,?_⟩,hl⟩
 ·have:(0:Int)≤(j:Int)∧(j:Int)<(ns.length:Int):=by omega
  simp [Go.Sim.sl,aY,this]
 ·have hc:=hc.resolve_left (by rintro rfl;simp at hj)
  simp [af,hc,cm,hj]
section
open Go.ChangeShapes
variable {P : Program} {W : World} {ρ : aI} {h : ae} {H : Type} {enc : TypeId × Value → H}
end
end
section
def CR (P:Program) (o:hO) (f:Nat→Value) (h:ae) (K:Value→ae→Prop):Prop:=
 match o with
 | .e (.next it)=>∃l,AO h (ev f it)=some l∧∀p∈l,K p.1 p.2
 | o=>dc P o f h K
def BY (P:Program):List jj→((Nat→Value)→ae→Prop)→(Nat→Value)→ae→Prop
 | [],K,f,h=>K f h
 | o::os,K,f,h=>CR P o.op f h fun v h'=>BY P os K (dK f o.dst v) h'
def Kl (P:Program) (g:Option (Nat×Bool)) (l:List jj) (K:(Nat→Value)→ae→Prop) (f:Nat→Value) (h:ae):Prop:=
 match g with
 | none=>BY P l K f h
 | some (s,b)=>tL P (some (s,b)) l K f h
noncomputable def ma (P:Program) (c:fc):ar→(Nat→Value)→ae→Prop:=
 fc.rec (motive:=fun _=>ar→(Nat→Value)→ae→Prop)
  (fun K f h=>K .normal f h)
  (fun l K f h=>od P l 0 [] [] (K .normal) f h)
  (fun g l K f h=>Kl P g l (K .normal) f h)
  (fun _ _ ia ib K f h=>ia (aF (ib K) K) f h)
  (fun ls _ ic K f h=>BL (ic K) ls (ls.map f) h)
  (fun c _ _ ia ib K f h=>pI (ev f c) (ia K f h) (ib K f h))
  (fun id _ ic K f h=>ic (bI id K) f h)
  (fun ks ls _ ic K f h=>AH (ls.map f) h fun L xs hx=>ic (aF (fun f' aU=>ks.map f'=ks.map f∧L (ls.map f') aU) K) (kD (ks++ls) (ks.map f++xs)) hx)
  (fun id K f h=>K (.exit id) f h)
  (fun K f h=>K .ret f h)
  (fun g ls c K f h=>vk P (ev f g) ls (ls.map f) c h (K .normal f)) c
section
variable {P : Program} {w : World} {ρ : aI} {h : ae}
theorem azK (H:aX P ρ h w) {it E0:Value} {l:List (Value×ae)} (hn:AO h it=some l) (hv:ay ρ it E0) (ty:TypeId):
  ∃p∈l,∃v' w',(Instr.next E0 false ty).run P w=.ok v' w'∧ay ρ p.1 v'∧aX P ρ p.2 w'∧Tr ρ h w ρ p.2 w':=by
 unfold AO at hn
 split at hn
 ·rename_i j
  split at hn
  ·rename_i i kE seen last tf
   split at hn
   ·rename_i g c es jq
    split at hn
    ·cases hn
    rename_i sV
    simp only [Option.some.injEq] at hn
    cases hv with
    | ptr hr=>
     rename_i r
     obtain ⟨o,ho,nH⟩:=H.obj j r hr
     rw [tf] at ho
     cases ho
     obtain ⟨JA,rm,Jy,hb⟩:=nH
     obtain ⟨aH,hm,E⟩:=H.BO Jy jq
     rw [JA]
     -- gv entries,one by one
     have axn:aH.toList.map (fun e=>e.born)=es.map fun e=>e.1:=by
      apply List.ext_getElem?
      intro q
      simp only [List.getElem?_map]
      by_cases hq:q<es.length
      ·have he:=getElem?_eq_getElem hq
       generalize es[q]=x at he
       obtain ⟨b,k,v⟩:=x
       obtain ⟨_,en,g2,g3,g4,g5⟩:=E.get q b k v he
       rw [he,getElem?_toList,g2]
       simp [g4]
      ·have h1:aH.toList[q]?=none:=getElem?_eq_none (by rw [Array.length_toList,E.size];omega)
       rw [h1,getElem?_eq_none (by omega)];rfl
     have hz:∀en∈aH.toList,∃e∈es,e.1=en.born∧e.2.1=en.key∧ay ρ e.2.2 en.val:=by
      intro en B9
      obtain ⟨q,hq,e'⟩:=List.mem_iff_getElem.1 B9
      have:aH[q]?=some en:=by rw [←getElem?_toList,getElem?_eq_getElem hq,e']
      obtain ⟨v,q1,_,q3⟩:=E.inv this
      exact ⟨_,mem_of_getElem? q1,rfl,rfl,q3⟩
     have uQ:∀e∈es,∃en∈aH.toList,e.1=en.born:=by
      intro e he
      have:e.1∈es.map fun e=>e.1:=mem_map.2 ⟨e,he,rfl⟩
      rw [←axn] at this
      obtain ⟨en,h1,h2⟩:=mem_map.1 this
      exact ⟨en,h1,h2.symm⟩
     -- vB gv aGt aGI
     let left:=aH.filter fun e=> !(seen.toArray.contains e.born)
     let old:=left.filter fun e=>decide (e.born<kE)
     let new:=left.filter fun e=>decide (e.born≥kE)
     let pG:Array (Option MapEntry):=(if old.isEmpty then #[none] else #[])++(old++new).map some
     have pK:(!seen.toArray.isEmpty&& !aH.isEmpty&&aH.all fun e=>decide (e.born≥last))=false:=by
      rw [Bool.eq_false_iff]
      intro hx
      apply sV
      simp only [and_eq_true] at hx⊢
      obtain ⟨⟨x1,x2⟩,x3⟩:=hx
      refine ⟨⟨by simpa using x1,?_⟩,?_⟩
      ·have:aH.size≠0:=by simpa [Array.isEmpty] using x2
       rw [E.size] at this
       simpa [List.isEmpty_iff] using this
      ·rw [all_eq_true]
       intro e he
       obtain ⟨en,h1,h2⟩:=uQ e he
       rw [Array.all_eq_true'] at x3
       have:=x3 en (by simpa using h1)
       rw [h2]
       exact this
     have iF:0<pG.size:=by
      simp only [pG]
      by_cases ho:old.isEmpty=true
      ·rw [if_pos ho];simp;omega
      ·rw [if_neg ho]
       have:old.size≠0:=by simpa [Array.isEmpty] using ho
       simp;omega
     have bQ:(getObj r.bu).run P w=.ok (.mapIter (some rm.bu) kE seen.toArray last) w:=by simp [getObj,Sem.run,hb]
     have Q3:(getObj rm.bu).run P w=.ok (.map aH c) w:=by simp [getObj,Sem.run,hm]
     obtain ⟨q,w1,hq,El,Al,hT1⟩:∃q w1,q<pG.size∧(choose (.mapNext pG.size)).run P w=.ok q w1∧(w1.heap=w.heap∧aX P ρ h w1)∧Tr ρ h w ρ h w1:=by
      by_cases hfo:(Question.mapNext pG.size).forced=true
      ·exact ⟨0,w,iF,by simp [choose,Sem.run,hfo],⟨rfl,H⟩,Tr.refl H⟩
      ·exact ⟨(w.tape w.drawn (.mapNext pG.size))%pG.size,{ w with drawn:=w.drawn+1 },Nat.mod_lt _ iF,by simp [choose,Sem.run,hfo,Question.cut],⟨rfl,H.drew _⟩,Tr.drew H _⟩
     have hold:(es.filter fun e=> !seen.contains e.1).filter (fun e=>decide (e.1<kE))=[]↔old.isEmpty=true:=by
      constructor
      ·intro h0
       simp only [old,left]
       rw [Array.isEmpty_iff_size_eq_zero]
       apply byContradiction
       intro bm
       obtain ⟨en,B9⟩:∃en,en∈(Array.filter (fun e=>decide (e.born<kE)) (Array.filter (fun e=> !(seen.toArray.contains e.born)) aH)):=⟨_,Array.getElem_mem (i:=0) (by omega)⟩
       rw [Array.mem_filter,Array.mem_filter] at B9
       obtain ⟨⟨e1,e2⟩,e3⟩:=B9
       obtain ⟨e,he,g1,_,_⟩:=hz en (by simpa using e1)
       have:e∈(es.filter fun e=> !seen.contains e.1).filter (fun e=>decide (e.1<kE)):=by
        rw [mem_filter,mem_filter,g1]
        exact ⟨⟨he,by simpa using e2⟩,e3⟩
       rw [h0] at this
       cases this
      ·intro h0
       rw [Array.isEmpty_iff_size_eq_zero] at h0
       rw [List.filter_eq_nil_iff]
       intro e he aB
       rw [mem_filter] at he
       obtain ⟨en,h1,h2⟩:=uQ e he.1
       have:en∈old:=by
        simp only [old,left]
        rw [Array.mem_filter,Array.mem_filter,←h2]
        exact ⟨⟨by simpa using h1,by simpa using he.2⟩,aB⟩
       rw [Array.eq_empty_of_size_eq_zero h0] at this
       simp at this
     have I3:w1.heap[r.bu]?=some (.mapIter (some rm.bu) kE seen.toArray last):=by rw [Al.1];exact hb
     obtain ⟨cq,I5⟩:∃cq,pG[q]?=some cq:=⟨_,Array.getElem?_eq_getElem hq⟩
     have gq:∀{v' w'},(match pG[q]? with
       | some (some e)=>(do setObj r.bu (.mapIter (some rm.bu) kE (seen.toArray.push e.born) c);pure (.tuple #[.bool true,e.key,e.val]):Sem Value)
       | some none=>pure (.tuple #[.bool false])
       | none=>stuck "Next: no such candidate").run P w1=.ok v' w'→(Instr.next (.pointer (some ⟨r.bu,0+0,none⟩)) false ty).run P w=.ok v' w':=by
      intro v' w' hx
      unfold Instr.next
      simp only [add_zero,Sem.run_bind,bQ,Result.andThen_ok,Q3,pK,Bool.false_eq_true,if_false]
      show ((choose (.mapNext pG.size)).run P w).andThen _=_
      rw [El]
      exact hx
     cases cq with
     | none=>
      -- it is Kp
      have ho:old.isEmpty=true:=by
       apply byContradiction
       intro ho
       have:(none:Option MapEntry)∈pG:=Array.mem_of_getElem? I5
       simp only [pG,if_neg ho] at this
       simp at this
      refine ⟨(.tuple #[.bool false],h),?_,.tuple #[.bool false],w1,gq (by rw [I5];rfl),ay.sA (.cons (.bool _) .nil),Al.2,hT1⟩
      rw [←hn]
      have:=hold.2 ho
      refine List.mem_append_left _ ?_
      rw [this];simp
     | some en=>
      have B9:en∈old++new:=by
       have:(some en:Option MapEntry)∈pG:=Array.mem_of_getElem? I5
       simp only [pG] at this
       rcases Array.mem_append.1 this with h1 | h1
       ·split at h1 <;> simp at h1
       ·obtain ⟨e2,h2,h3⟩:=Array.mem_map.1 h1
        cases h3
        exact h2
      have Ja:en∈aH.toList∧seen.contains en.born=false:=by
       rcases Array.mem_append.1 B9 with h1 | h1
       ·simp only [old,left] at h1
        rw [Array.mem_filter,Array.mem_filter] at h1
        exact ⟨by simpa using h1.1.1,by simpa using h1.1.2⟩
       ·simp only [new,left] at h1
        rw [Array.mem_filter,Array.mem_filter] at h1
        exact ⟨by simpa using h1.1.1,by simpa using h1.1.2⟩
      obtain ⟨e,he,g1,g2,g3⟩:=hz en Ja.1
      have aB:=(bL tf).1
      have jr:cC h j:=.inr (.inr (.inr (.inr (.inr ⟨_,_,_,_,tf⟩))))
      have sb:=mW.obj I3 (.mapIter (some rm.bu) kE (seen.toArray.push en.born) c)
      obtain ⟨q1,q2⟩:=Al.2.set (o:=.iter i kE (seen++[e.1]) c) hr jr sb ⟨JA,rm,Jy,by rw [sb.here,g1];simp⟩
      have lX:(setObj r.bu (.mapIter (some rm.bu) kE (seen.toArray.push en.born) c)).run P w1=.ok () { w1 with heap:=w1.heap.setIfInBounds r.bu (.mapIter (some rm.bu) kE (seen.toArray.push en.born) c) }:=by
       simp [setObj,Sem.run,I3]
      refine ⟨(.tuple #[.bool true,e.2.1,e.2.2],h.set j (.iter i kE (seen++[e.1]) c)),?_,.tuple #[.bool true,en.key,en.val],_,gq (by rw [I5];simp only [Sem.run_bind,lX,Result.andThen_ok,Sem.run_pure]),?_,q1,hT1.trans q2⟩
      ·rw [←hn]
       refine List.mem_append_right _ (mem_map.2 ⟨e,?_,rfl⟩)
       have hl:e∈es.filter fun e=> !seen.contains e.1:=by
        rw [mem_filter,g1]
        exact ⟨he,by simp at Ja⊢;exact Ja.2⟩
       by_cases kr:e.1<kE
       ·exact List.mem_append_left _ (mem_filter.2 ⟨hl,by simpa using kr⟩)
       ·exact List.mem_append_right _ (mem_filter.2 ⟨hl,by simpa using le_of_not_lt kr⟩)
      ·rw [g2]
       have Re:ay ρ en.key en.key:=by
        have hk:fe g en.key=true:=by
         obtain ⟨q',gL,e'⟩:=List.mem_iff_getElem.1 Ja.1
         have:aH[q']?=some en:=by rw [←getElem?_toList,getElem?_eq_getElem gL,e']
         exact (E.inv this).choose_spec.2.1
        have ints:∀{kd:IntKind} {v:Value},kB kd v=true→ay ρ v v∧gN v=true:=by
         intro kd v hv
         cases v <;> simp [kB] at hv
         exact ⟨.int _ _,rfl⟩
        cases yd:en.key with
        | int kd n=>exact .int _ _
        | string s=>exact .string _
        | agg cs=>
         rw [yd] at hk
         cases g with
         | ints n kd=>
          simp only [fe,and_eq_true,all_eq_true] at hk
          refine .agg rfl (fun x hx=>(ints (hk.2 x hx).1).2) (fun k x x' hx bY=>?_)
          rw [hx] at bY
          cases bY
          exact (ints (hk.2 x (by rw [←getElem?_toList] at hx;exact mem_of_getElem? hx)).1).1
         | int _=>simp [fe,kB] at hk
         | str=>simp [fe] at hk
        | _=>rw [yd] at hk;cases g <;> simp [fe,kB] at hk
       exact ay.sA (.cons (.bool _) (.cons Re (.cons g3 .nil)))
   ·cases hn
  ·cases hn
 ·cases hn
end
end
section
section
variable {P : Program} {N : Nat}
theorem auS {op:Op} {it:Operand} (h:iN P op=some (.next it)):op=.next it false:=by
 unfold iN at h
 split at h
 case h_13=>simp at h;subst h;rfl
 all_goals exfalso
 all_goals repeat' (split at h)
 all_goals first | (cases h;done) | (simp at h;done) | (simp only [map_eq_some_iff] at h;obtain ⟨_,_,h⟩:=h;cases h;done) | skip
theorem azZ {o:Oper} {io:hO} {f:Nat→Value} {h:ae} {K:Value→ae→Prop} (hc:vS P o.op=some io) (aC:o.op.operands.all jy=true) (hs:CR P io f h K):
  ∀R B ρ a w,ep P N B ρ f h a w→∀(next:Act→World→Prop) (Q:Exit→Act→World→Prop),
   (∀v h' av v' w',K v h'→ay av v v'→aX P av h' w'→Tr ρ h w av h' w'→next (a.put o.dst v') w')→o.wpIn (FR R) 0 P a w next Q:=by
 have det:dc P io f h K→∀R B ρ a w,ep P N B ρ f h a w→∀(next:Act→World→Prop) (Q:Exit→Act→World→Prop),
   (∀v h' av v' w',K v h'→ay av v v'→aX P av h' w'→Tr ρ h w av h' w'→next (a.put o.dst v') w')→o.wpIn (FR R) 0 P a w next Q:=by
  intro hs R B ρ a w Rr next Q hn
  obtain ⟨v,h',st,hk⟩:=AR (N:=N) hc aC hs
  exact st R B ρ a w Rr next Q fun av v' w' h1 h2 h3=>hn v h' av v' w' hk h1 h2 h3
 cases io with
 | e eo=>
  cases eo with
  | next it=>
   obtain ⟨l,hl,hk⟩:=hs
   rcases PW hc with ⟨po,e,_⟩ | ⟨lo,e,_⟩ | ⟨eo,e,he⟩ | ⟨g,args,at_,_,_,e⟩ | ⟨x,args,at_,_,e⟩
   ·cases e
   ·cases e
   ·cases e
    have cY:=auS he
    intro R B ρ a w Rr next Q hn
    rw [cY] at aC
    simp [Op.operands] at aC
    obtain ⟨p,hp,v',w',h1,h2,h3,h4⟩:=azK Rr.heap hl (Rr.ev aC) o.type
    exact LW (acG hc) (v:=v') (w':=w') (by simp [execOp,cY,h1]) (hn p.1 p.2 ρ v' w' (hk p hp) h2 h3 h4)
   ·cases e
   ·cases e
  | _=>exact det hs
 | _=>exact det hs
def nW (P:Program) (N:Nat) (ops:Array Oper) (j6:List Nat) (f:Nat→Value) (h:ae) (K:(Nat→Value)→ae→Prop):Prop:=
 ∀S B ρ a w,ep P N B ρ f h a w→∀Q:Exit→Act→World→Prop,(∀f' h' av a' w',K f' h'→ep P N B av f' h' a' w'→Tr ρ h w av h' w'→Q .normal a' w')→wpOpsIn (FR S) 0 P ops Q j6 a w
theorem hX.n {ops:Array Oper} {j6:List Nat} {f f':Nat→Value} {h h':ae} {K:(Nat→Value)→ae→Prop} (r:hX P N ops j6 f h f' h') (hk:K f' h'):nW P N ops j6 f h K:=
 fun S B ρ a w R Q hq=>r S B ρ a w R Q fun av a' w' R' T=>hq f' h' av a' w' hk R' T
theorem nW.append {ops:Array Oper} {i j:List Nat} {f:Nat→Value} {h:ae} {K K':(Nat→Value)→ae→Prop} (a:nW P N ops i f h K) (b:∀cT h₁,K cT h₁→nW P N ops j cT h₁ K'):nW P N ops (i++j) f h K':=by
 intro S B ρ ac w R Q hq
 refine vC (a S B ρ ac w R _ ?_)
 intro cT h₁ nw zc oL hk yV T
 exact b cT h₁ hk S B nw zc oL yV Q fun f' h' av a' w' cW R' T'=>hq f' h' av a' w' cW R' (T.trans T')
theorem nW.weaken {ops:Array Oper} {j6:List Nat} {f cT:Nat→Value} {h:ae} {K:(Nat→Value)→ae→Prop} (hw:tY cT f) (hr:nW P N ops j6 cT h K):nW P N ops j6 f h K:=
 fun S B ρ a w R=>hr S B ρ a w (R.weaken hw)
theorem adF {ops:Array Oper}:∀{l:List jj} {os:List Oper} {i:Nat} {K:(Nat→Value)→ae→Prop} {f:Nat→Value} {h:ae},(∀(k:Nat) (o:Oper),os[k]?=some o→ops[i+k]?=some o)→lQ P N ops os=some (qx none l)→BY P l K f h→
  nW P N ops (range' i os.length) f h K
 | [],os,i,K,f,h,_,hc,hi=>by
  cases os with
  | nil=>exact fun S B ρ a w R Q hq=>hq f h ρ a w hi R (Tr.refl R.heap)
  | cons o os=>obtain ⟨x,xs,_,_,he⟩:=vR hc;simp [qx] at he
 | g::l,os,i,K,f,h,qK,hc,hi=>by
  cases os with
  | nil=>simp [lQ,qx] at hc
  | cons o os=>
   obtain ⟨x,xs,h1,h2,he⟩:=vR hc
   simp only [qx,map_cons,List.cons.injEq] at he
   obtain ⟨rfl,rfl⟩:=he
   obtain ⟨q1,q2,q3,q4,q5⟩:=DR h1
   have ho:ops[i]?=some o:=qK 0 o rfl
   have Jt:∀(k:Nat) (o':Oper),os[k]?=some o'→ops[i+1+k]?=some o':=by
    intro k o' hk
    have:=qK (k+1) o' (by simpa using hk)
    rw [show i+(k+1)=i+1+k by omega] at this
    exact this
   intro S B ρ a w R Q hq
   rw [length_cons,List.range'_succ]
   simp only [wpOpsIn,ho]
   rw [if_pos (by rw [F3 q4 R trivial];rfl)]
   have b7:CR P g.op f h fun v h'=>BY P l K (dK f g.dst v) h':=hi
   refine azZ q3 q1 b7 S B ρ a w R _ _ ?_
   intro v h' av v' w' hk hv H T
   have q5':g.dst=o.dst:=q5
   rw [q5'] at hk
   exact adF Jt h2 hk S B av _ w' (R.vh q2 T hv H) Q fun D5 aU mS sO ke axh oP T'=>hq D5 aU mS sO ke axh oP (T.trans T')
theorem acL {ls:List Nat} {c:fc} {K:Exit→(Nat→Value)→ae→Prop} {f:Nat→Value} {h:ae} (hi:ma P (xJ ls c) K f h):∃f',tY f' f∧ma P c K f' h:=by
 cases ls with
 | nil=>exact ⟨f,fun _=>.inl rfl,hi⟩
 | cons l ls=>exact ⟨_,Fm f (l::ls),hi⟩
theorem aDD {ops:Array Oper}:∀{gs:List (Option (Nat×Bool)×List jj)} {hs:Hints} {os:List Oper} {i:Nat} {K:Exit→(Nat→Value)→ae→Prop} {f:Nat→Value} {h:ae},
  (∀(k:Nat) (o:Oper),os[k]?=some o→ops[i+k]?=some o)→lQ P N ops os=some (nZ gs)→(∀g l,(g,l)∈gs→∀o∈l,leaves g o.dst=true)→ma P (re gs hs).1 K f h→
  nW P N ops (range' i os.length) f h (K .normal):=by
 intro gs
 induction gs with
 | nil=>
  intro hs os i K f h qK hc _ hi
  cases os with
  | nil=>exact fun S B ρ a w R Q hq=>hq f h ρ a w hi R (Tr.refl R.heap)
  | cons o os=>
   obtain ⟨x,xs,_,_,he⟩:=vR hc
   simp [nZ] at he
 | cons a gs ih=>
  obtain ⟨g,l⟩:=a
  intro hs os i K f h qK hc hl hi
  simp only [nZ] at hc
  obtain ⟨mf,gu,rfl,c0,c1⟩:=PU hc
  have Ju:∀(k:Nat) (o:Oper),mf[k]?=some o→ops[i+k]?=some o:=by
   intro k o hk
   refine qK k o ?_
   rw [getElem?_append_left (bL hk).1]
   exact hk
  have Rs:∀(k:Nat) (o:Oper),gu[k]?=some o→ops[i+mf.length+k]?=some o:=by
   intro k o hk
   rw [Nat.add_assoc]
   refine qK _ o ?_
   rw [List.getElem?_append_right (by omega)]
   simpa using hk
  have first:∀{K:(Nat→Value)→ae→Prop},Kl P g l K f h→nW P N ops (range' i mf.length) f h K:=by
   intro K hk
   cases g with
   | none=>exact adF Ju c0 hk
   | some sb=>
    obtain ⟨f',h',r1,r2⟩:=JJ Ju c0 (aiz (fun o ho=>hl _ l (by simp) o ho) hk)
    exact r1.n r2
  have both:∀{M7:(Nat→Value)→ae→Prop},nW P N ops (range' i mf.length) f h M7→(∀cT h₁,M7 cT h₁→nW P N ops (range' (i+mf.length) gu.length) cT h₁ (K .normal))→nW P N ops (range' i (mf++gu).length) f h (K .normal):=by
   intro M7 a b
   rw [List.length_append,←List.range'_append_1]
   exact a.append b
  have rest:∀{hs:Hints} {cT:Nat→Value} {h₁:ae},ma P (re gs hs).1 K cT h₁→nW P N ops (range' (i+mf.length) gu.length) cT h₁ (K .normal):=
   fun hk=>ih Rs c1 (fun g' l' hm=>hl g' l' (by simp [hm])) hk
  cases gs with
  | nil=>
   have ED:ma P (.ops g l) K f h:=by
    cases hs <;> exact hi
   have r1:=first ED
   have h1:gu=[]:=by
    cases gu with
    | nil=>rfl
    | cons o os=>obtain ⟨x,xs,_,_,he⟩:=vR c1;simp [nZ] at he
   subst h1
   simpa using r1
  | cons b gs=>
   cases hs with
   | nil=>exact both (first (K:=fun f h=>ma P (re (b::gs) []).1 K f h) hi) fun cT h₁ r2=>rest r2
   | cons h0 hs=>
    refine both (first (K:=fun f h=>ma P (xJ h0 (re (b::gs) hs).1) K f h) hi) fun cT h₁ r2=>?_
    obtain ⟨Qr,hw,r3⟩:=acL r2
    exact (rest r3).weaken hw
def yT (P:Program) (N B:Nat) (ρ:aI) (h:ae) (w:World) (K:ar):Exit→Act→World→Prop:=
 fun e a' w'=>∃f' h' av,K e f' h'∧ep P N B av f' h' a' w'∧Tr ρ h w av h' w'
def xy (P:Program) (N:Nat) (out:Bool) (c:Code) (f:Nat→Value) (h:ae) (K:ar):Prop:=
 ∀S,(out=true→S=none)→∀B ρ a w,ep P N B ρ f h a w→c.wpIn (FR S) 0 P (yT P N B ρ h w K) a w
def Bw (P:Program) (N:Nat) (out:Bool) (c:Code) (f:Nat→Value) (h:ae) (K:ar):Prop:=
 ∀S,(out=true→S=none)→∀B ρ a w,ep P N B ρ f h a w→qY S P c (yT P N B ρ h w K) a w
variable {out : Bool}
theorem gT.n {c:Code} {f f':Nat→Value} {h h':ae} {e:Exit} {K:ar} (r:gT P N out c f h e f' h') (hk:K e f' h'):xy P N out c f h K:=by
 intro S hS B ρ a w R
 refine wpIn_mono (r S hS B ρ a w R) ?_
 rintro e' a' w' ⟨rfl,av,R',T⟩
 exact ⟨f',h',av,hk,R',T⟩
theorem yT.trans {B:Nat} {ρ nw:aI} {h h₁:ae} {w oL:World} {K:ar} (T:Tr ρ h w nw h₁ oL):∀e' a' w',yT P N B nw h₁ oL K e' a' w'→yT P N B ρ h w K e' a' w':=by
 rintro e' a' w' ⟨f',h',av,hk,R,T'⟩
 exact ⟨f',h',av,hk,R,T.trans T'⟩
theorem xy.weaken {c:Code} {f cT:Nat→Value} {h:ae} {K:ar} (hw:tY cT f) (hr:xy P N out c cT h K):xy P N out c f h K:=
 fun S hS B ρ a w R=>hr S hS B ρ a w (R.weaken hw)
theorem Bw.weaken {c:Code} {f cT:Nat→Value} {h:ae} {K:ar} (hw:tY cT f) (hr:Bw P N out c cT h K):Bw P N out c f h K:=
 fun S hS B ρ a w R=>hr S hS B ρ a w (R.weaken hw)
theorem ayu {out:Bool}:∀{c:Code} {hs dT:Hints} {ic:fc},fu P N c hs=some (ic,dT)→(out=true∨iJ c=true)→∀{K:ar} {f:Nat→Value} {h:ae},ma P ic K f h→xy P N out c f h K:=by
 intro c
 induction c with
 | skip=>
  intro hs dT ic hc ho K f h hi
  simp [fu] at hc
  obtain ⟨rfl,_⟩:=hc
  exact fun S hS B ρ a w R=>wpIn_skip ⟨f,h,ρ,hi,R,Tr.refl R.heap⟩
 | region id ops draw=>
  intro hs dT ic hc ho K f h hi
  cases draw with
  | true=>
   simp only [fu] at hc
   split at hc
   ·rename_i l hl
    split at hc
    ·rename_i wo
     simp at hc
     obtain ⟨rfl,_⟩:=hc
     have iE:=adx (acX wo) hi
     rw [It] at iE
     obtain ⟨f',h',r1,r2⟩:=afm (id:=id) hl iE
     exact r1.n r2
    ·cases hc
   ·cases hc
  | false=>
   simp only [fu] at hc
   split at hc
   ·rename_i l hl
    split at hc
    ·rename_i wo
     simp only [Option.some.injEq] at hc
     have he:ic=(re (uG l) hs).1:=by rw [hc]
     subst he
     have r1:=aDD (i:=0) (os:=ops.toList) (ops:=ops) (fun k o hk=>by simpa using hk) (by rw [IP];exact hl) (afW wo) hi
     intro S hS B ρ a w R
     refine wpIn_region ?_
     rw [List.range_eq_range']
     have r1':nW P N ops (range' 0 ops.size) f h (K .normal):=by simpa using r1
     refine r1' S B ρ a w R _ ?_
     intro f' h' av a' w' hk R' T
     exact ⟨f',h',av,hk,R',T⟩
    ·cases hc
   ·simp at hc
    obtain ⟨rfl,_⟩:=hc
    exact (show False from hi).elim
 | seq x y Av Aw=>
  intro hs dT ic hc ho K f h hi
  have Ac:out=true∨iJ x=true:=ho.imp id fun h=>by simp only [iJ,and_eq_true] at h;exact h.1
  have Ad:out=true∨iJ y=true:=ho.imp id fun h=>by simp only [iJ,and_eq_true] at h;exact h.2
  have both:∀{a b:fc} {h0 je iu:Hints} {ls:List Nat},fu P N x hs=some (a,h0)→fu P N y je=some (b,iu)→ma P (.seq a (xJ ls b)) K f h→xy P N out (.seq x y) f h K:=by
   intro a b h0 je iu ls ha hb hi
   have r1:=Av ha Ac hi
   intro S hS B ρ ac w R
   refine wpIn_seq (wpIn_mono (r1 S hS B ρ ac w R) ?_)
   rintro e' a' w' ⟨cT,h₁,nw,hk,yV,T⟩
   cases e' with
   | normal=>
    obtain ⟨Qr,hw,r3⟩:=acL hk
    exact wpIn_mono (((Aw hb Ad r3).weaken hw) S hS B nw a' w' yV) (yT.trans T)
   | _=>exact ⟨cT,h₁,nw,hk,yV,T⟩
  simp only [fu] at hc
  split at hc
  ·rename_i a h0 je ha
   split at hc
   ·rename_i b iu hb
    simp at hc
    obtain ⟨rfl,_⟩:=hc
    exact both ha hb hi
   ·cases hc
  ·rename_i a ha
   split at hc
   ·rename_i b iu hb
    simp at hc
    obtain ⟨rfl,_⟩:=hc
    exact both (ls:=[]) ha hb hi
   ·cases hc
  ·cases hc
 | cond c x y Av Aw=>
  intro hs dT ic hc ho K f h hi
  have Ac:out=true∨iJ x=true:=ho.imp id fun h=>by simp only [iJ,and_eq_true] at h;exact h.1
  have Ad:out=true∨iJ y=true:=ho.imp id fun h=>by simp only [iJ,and_eq_true] at h;exact h.2
  simp only [fu] at hc
  split at hc
  ·rename_i aC
   split at hc
   ·rename_i a je ha
    split at hc
    ·rename_i b iu hb
     simp at hc
     obtain ⟨rfl,_⟩:=hc
     have hi:pI (ev f c) (ma P a K f h) (ma P b K f h):=hi
     simp only [pI] at hi
     split at hi
     ·rename_i t ht
      have go:xy P N out (if t then x else y) f h K→xy P N out (.cond c x y) f h K:=by
       intro r S hS B ρ ac w R
       have:=R.ev aC
       rw [ht] at this
       exact wpIn_cond this.zi (r S hS B ρ ac w R)
      cases t
      ·simp at hi
       exact go (by simpa using Aw hb Ad hi)
      ·simp at hi
       exact go (by simpa using Av ha Ac hi)
     ·exact hi.elim
    ·cases hc
   ·cases hc
  ·cases hc
 | block id c ih=>
  intro hs dT ic hc ho K f h hi
  simp only [fu] at hc
  split at hc
  ·rename_i a je ha
   simp at hc
   obtain ⟨rfl,_⟩:=hc
   have r1:=ih ha (ho.imp (fun h=>h) fun h=>h) (K:=bI id K) hi
   intro S hS B ρ ac w R
   refine wpIn_block (wpIn_mono (r1 S hS B ρ ac w R) ?_)
   rintro e' a' w' ⟨f',h',av,hk,R',T⟩
   cases e' with
   | exit i=>
    simp only [Exit.inBlock,bI] at hk⊢
    split <;> rename_i h
    ·rw [if_pos h] at hk;exact ⟨f',h',av,hk,R',T⟩
    ·rw [if_neg h] at hk;exact ⟨f',h',av,hk,R',T⟩
   | _=>exact ⟨f',h',av,hk,R',T⟩
  ·cases hc
 | loop c ih=>
  intro hs dT ic hc ho K f h hi
  simp only [fu] at hc
  split at hc
  ·rename_i ks ls je
   split at hc
   ·rename_i a iu ha
    simp at hc
    obtain ⟨rfl,_⟩:=hc
    obtain ⟨J,μ,h0,RJ⟩:=hi
    have key:∀(n:Nat) (xs:List Value) (hh:ae),μ xs hh=n→J xs hh→Bw P N out c (kD (ks++ls) (ks.map f++xs)) hh K:=by
     intro n
     induction n using Nat.strongRecOn with
     | _ n tC=>
      intro xs hh hn hJ
      have r1:=ih ha (ho.imp (fun h=>h) fun h=>h) (RJ xs hh hJ)
      intro S hS B ρ ac w R
      refine qY.round (wpIn_mono (r1 S hS B ρ ac w R) ?_)
      rintro e' a' w' ⟨cT,h₁,nw,hk,yV,T⟩
      cases e' with
      | normal=>
       obtain ⟨hk,QI,aB⟩:=hk
       have s1:=tC (μ (ls.map cT) h₁) (by omega) (ls.map cT) h₁ rfl QI
       have s2:Bw P N out c cT h₁ K:=s1.weaken (by rw [←hk];exact Kk cT ks ls _ rfl)
       exact (s2 S hS B nw a' w' yV).mono (yT.trans T)
      | _=>exact ⟨cT,h₁,nw,hk,yV,T⟩
    have s1:Bw P N out c f h K:=(key _ (ls.map f) h rfl h0).weaken (Kk f ks ls _ rfl)
    exact fun S hS B ρ ac w R=>(s1 S hS B ρ ac w R).wp
   ·cases hc
  ·cases hc
 | exit id=>
  intro hs dT ic hc ho K f h hi
  simp [fu] at hc
  obtain ⟨rfl,_⟩:=hc
  exact fun S hS B ρ a w R=>wpIn_exit ⟨f,h,ρ,hi,R,Tr.refl R.heap⟩
 | ret=>
  intro hs dT ic hc ho K f h hi
  simp [fu] at hc
  obtain ⟨rfl,_⟩:=hc
  exact fun S hS B ρ a w R=>wpIn_ret ⟨f,h,ρ,hi,R,Tr.refl R.heap⟩
 | rangeFunc g ps kn body=>
  intro hs dT ic hc ho K f h hi
  have ho:out=true:=ho.resolve_right (by simp [iJ])
  subst ho
  simp only [fu] at hc
  split at hc
  ·rename_i ls je
   split at hc
   ·rename_i hk
    simp at hc
    obtain ⟨rfl,_⟩:=hc
    simp only [and_eq_true] at hk
    obtain ⟨h',r1,r2⟩:=amn hk.1 hi
    exact r1.n r2
   ·cases hc
  ·cases hc
 | _=>intro hs dT ic hc;simp [fu] at hc
end
def Sg (P:Program) (F:FuncId) (args:List Value) (h:ae) (K:Value→ae→Prop):Prop:=
 ∀(ρ:aI) (args':Array Value) (w:World),bF ρ args args'.toList→aX P ρ h w→
  Calls P F args' w fun e w'=>∃v h' v' av,K v h'∧e=.returned v'∧ay av v v'∧aX P av h' w'∧Tr ρ h w av h' w'
theorem ayb {P:Program} {F:FuncId} {N:Nat} {ic:fc} {rs:List kN} {hs:Hints} {h:ae} (hc:bK P F hs=some (N,ic,rs)) {args:List Value} (ha:args.length≤N) {K:Value→ae→Prop}
  (hi:ma P ic (OW rs K) (bG args) h):Sg P F args h K:=by
 unfold bK at hc
 split at hc
 ·rename_i fn hf
  split at hc
  ·rename_i c hb
   split at hc
   ·rename_i ic' _ Vu h1 h2
    simp at hc
    obtain ⟨hN,rfl,rfl⟩:=hc
    have r1:=ayu (out:=true) h1 (.inl rfl) hi
    intro ρ args' w hv H
    refine callsIn_wide.1 (callsIn_of_wp_marks (F:=Fence.wide) (n:=0) hf hb trivial ?_ rfl)
    have kU:args'.size=args.length:=by have:=hv.length;simpa using this.symm
    have R:ep P fn.ntmps w.heap.size ρ (bG args) h { tmps:=args'++replicate (fn.ntmps-args'.size) Go.undef,defers:=[] } w:=⟨by simp;omega,le_refl _,adt hv fn.ntmps,H⟩
    refine wpIn_mono (r1 none (fun _=>rfl) _ ρ _ w R) ?_
    rintro e' a' w' ⟨f',h',av,hk,R',T⟩
    have tk:(e'=.normal∨e'=.ret)∧Ld Vu K f' h':=by
     cases e' <;> first | exact ⟨.inl rfl,hk⟩ | exact ⟨.inr rfl,hk⟩ | exact hk.elim
    obtain ⟨he,tk⟩:=tk
    obtain ⟨vs,yp,tk⟩:=Le tk
    have key:LeavesInM Fence.wide 0 P fn a'.tmps (fun e w'=>∃v h' v' av,K v h'∧e=.returned v'∧ay av v v'∧aX P av h' w'∧Tr ρ h w av h' w') a'.defers .returning w':=by
     refine SF R'.defers R'.heap T ?_
     intro ke Dl uj
     have oP:ep P fn.ntmps 0 av f' h' { a' with defers:=[] } ke:=⟨R'.size,Nat.zero_le _,R'.tmp,Dl⟩
     obtain ⟨v',q1,q2⟩:=amL oP h2 yp
     exact ⟨v',q1,pack vs,h',v',av,tk,rfl,q2,Dl,uj⟩
    rcases he with rfl | rfl
    ·exact key
    ·exact key
   ·cases hc
  ·cases hc
 ·cases hc
end
end Go.Sim
