/-
  Part 2 of the texts behind a statement of this seat: Sim15, Sim17, Sim18, Sim18b, Sim18c, Sim18d, Sim18e, Sim18f, Sim19, Sim19b, Sim16, Sim20, Sim21, Sim23, Sim24, Sim25, Sim26.
-/
import Derived.ProofKit
import Derived.OpenShut
import Derived.Test.YtelmdbpaoifmoaaGreatMi1
namespace Go.Sim

section
variable {P : Program} {N : Nat}

def fM (P:Program) (N:Nat) (ops:Array Oper) (idx:List Nat) (f:Nat→Value) (h:ae) (f':Nat→Value) (h':ae):Prop:=
 ∀S B ρ a w,Rel P N B ρ f h a w→∀Q:Exit→Act→World→Prop,(∀ar a' w',Rel P N B ar f' h' a' w'→Tr ρ h w ar h' w'→Q .normal a' w')→wpOpsIn (FR S) 0 P ops Q idx a w

theorem fM.nil {ops:Array Oper} {f:Nat→Value} {h:ae}:fM P N ops [] f h f h:=fun _ _ ρ a w R _ hq=>hq ρ a w R (Tr.refl R.heap)

theorem Rel.ry {B:Nat} {ρ ar:aI} {f:Nat→Value} {h h':ae} {a:Act} {w w':World} (R:Rel P N B ρ f h a w) {d:Option Nat} (hd:d.all (·<N)=true) {v v':Value} (T:Tr ρ h w ar h' w') (hv:av ar v v') (H:aU P ar h' w'):
  Rel P N B ar (cX f d v) h' (a.put d v') w':=by
 cases d with
 | none=>exact R.mono T H
 | some d=>exact R.put (by simpa using hd) T hv H

theorem fM.step {ops:Array Oper} {i:Nat} {idx:List Nat} {o:Oper} {f f':Nat→Value} {h h₁ h':ae} {v:Value} (ho:ops[i]?=some o) (hd:o.dst.all (·<N)=true)
  (hw:∀B ρ a w,Rel P N B ρ f h a w→Region.wanted o (yielded ops a.tmps)=true) (hs:C6 P N o f h v h₁) (hr:fM P N ops idx (cX f o.dst v) h₁ f' h'):fM P N ops (i::idx) f h f' h':=by
 intro S B ρ a w R Q hq
 simp only [wpOpsIn,ho]
 rw [if_pos (hw B ρ a w R)]
 refine hs S B ρ a w R _ _ ?_
 intro ar v' w' hv H T
 exact hr S B ar _ w' (R.ry hd T hv H) Q fun kj pG iQ mw T'=>hq kj pG iQ mw (T.trans T')

theorem fM.pass {ops:Array Oper} {i:Nat} {idx:List Nat} {o:Oper} {f f':Nat→Value} {h h':ae} (ho:ops[i]?=some o) (hd:o.dst.all (·<N)=true)
  (hw:∀B ρ a w,Rel P N B ρ f h a w→Region.wanted o (yielded ops a.tmps)=false) (hr:fM P N ops idx (cX f o.dst undef) h f' h'):fM P N ops (i::idx) f h f' h':=by
 intro S B ρ a w R Q hq
 simp only [wpOpsIn,ho]
 rw [if_neg (by rw [hw B ρ a w R];simp)]
 exact ⟨fun _ _=>trivial,hr S B ρ _ w (R.ry hd (Tr.refl R.heap) (av.undef _) R.heap) Q hq⟩

def pQ (g:Option (Nat×Bool)) (f:Nat→Value):Prop:=
 match g with
 | none=>True
 | some (s,_)=>sH (f s)=false

theorem as4 {ρ:aI} {v v':Value} (h:av ρ v v') (hb:sH v=false) (b:Bool):od v' b=od v b:=by
 cases h <;> first | rfl | simp [sH] at hb

theorem E1 {v:Value} {b:Bool} {A B:Prop} (h:jg v b A B):sH v=false∧((od v b=true∧A)∨(od v b=false∧B)):=by
 unfold jg at h
 split at h
 ·rename_i c
  refine ⟨rfl,?_⟩
  split at h
  ·rename_i hc;exact .inl ⟨hc,h⟩
  ·rename_i hc;exact .inr ⟨by simpa [od] using hc,h⟩
 ·exact h.elim
 ·rename_i x h1 h2
  have e1:sH v=false:=by
   cases v <;> first | rfl | exact absurd rfl (h2 _ _ _)
  have e2:od v b=false:=by
   cases v <;> first | rfl | exact absurd rfl (h1 _)
  exact ⟨e1,.inr ⟨e2,h⟩⟩

theorem Cn {ops:Array Oper} {o:Oper} {g:Option (Nat×Bool)} (hg:Ey N ops o.guard=some g) {B:Nat} {ρ:aI} {f:Nat→Value} {h:ae} {a:Act} {w:World} (R:Rel P N B ρ f h a w) (hb:pQ g f):
  Region.wanted o (yielded ops a.tmps)=gD g f:=by
 unfold Ey at hg
 unfold Region.wanted
 cases jj:o.guard with
 | none=>rw [jj] at hg;simp at hg;subst hg;rfl
 | some jb=>
  obtain ⟨j,b⟩:=jb
  rw [jj] at hg
  simp only at hg⊢
  split at hg
  ·rename_i s hs
   split at hg
   ·rename_i aB
    simp at hg;subst hg
    simp only [gD]
    have hr:=R.tmp s
    have jC:s<a.tmps.size:=by rw [R.size];exact aB
    have bP:a.tmps[s]?=some (a.tmps.getD s Go.undef):=by simp [Array.getD,jC]
    rw [←as4 hr hb b]
    unfold yielded
    rw [hs]
    simp only [Option.bind_some,bP]
    generalize a.tmps.getD s Go.undef=u
    cases u <;> simp [od]
   ·cases hg
  ·cases hg

def qF (f' f:Nat→Value):Prop:=∀t,f' t=f t∨f' t=bot

theorem Rel.weaken {B:Nat} {ρ:aI} {f f':Nat→Value} {h:ae} {a:Act} {w:World} (R:Rel P N B ρ f h a w) (hw:qF f' f):Rel P N B ρ f' h a w:=
 ⟨R.size,R.defers,fun t=>(hw t).elim (fun e=>by rw [e];exact R.tmp t) (fun e=>by rw [e];exact .any _),R.heap⟩

theorem BO (f:Nat→Value):∀ls:List Nat,qF (jc ls (ls.map f)) f
 | [],t=>.inr rfl
 | l::ls,t=>by
  simp only [List.map_cons,auw]
  by_cases h:t=l
  ·subst h;simp
  ·rw [if_neg h];exact BO f ls t

theorem fM.weaken {ops:Array Oper} {idx:List Nat} {f cE f':Nat→Value} {h h':ae} (hw:qF cE f) (hr:fM P N ops idx cE h f' h'):fM P N ops idx f h f' h':=
 fun S B ρ a w R=>hr S B ρ a w (R.weaken hw)

theorem fE.weaken {b:Bool} {c:Code} {f cE f':Nat→Value} {h h':ae} {e:Exit} (hw:qF cE f) (hr:fE P N b c cE h e f' h'):fE P N b c f h e f' h':=
 fun S hS B ρ a w R=>hr S hS B ρ a w (R.weaken hw)

theorem rG {S:Option Nat} {ops:Array Oper} {Q:Exit→Act→World→Prop}:∀{i j:List Nat} {a:Act} {w:World},wpOpsIn (FR S) 0 P ops (fun e a w=>match e with | .normal=>wpOpsIn (FR S) 0 P ops Q j a w | e=>Q e a w) i a w→wpOpsIn (FR S) 0 P ops Q (i++j) a w
 | [],j,a,w,h=>h
 | i::is,j,a,w,h=>by
  simp only [List.cons_append,wpOpsIn] at h⊢
  cases ho:ops[i]? with
  | none=>rw [ho] at h;exact rG h
  | some o=>
   rw [ho] at h
   simp only at h⊢
   split at h
   ·rename_i hw
    rw [if_pos hw]
    obtain ⟨h0,h⟩:=h
    refine ⟨h0,?_⟩
    generalize (o.semAt (FR S).round a.eval).run P w=r at h⊢
    cases r with
    | ok x w'=>
     cases x <;> simp only [Oper.uponIn] at h⊢
     ·exact rG h
     ·exact rG h
     ·refine ⟨h.1,h.2.mono ?_⟩
      rintro e iQ hR
      cases e with
      | returned v=>exact rG hR
      | panicked chain=>exact hR
      | outgrown=>exact hR
     ·refine ⟨h.1,h.2.mono ?_⟩
      rintro e iQ hR
      cases e with
      | returned v=>exact rG hR
      | panicked chain=>exact hR
      | outgrown=>exact hR
     ·exact rG h
     ·refine ⟨h.1,h.2.mono ?_⟩
      rintro v iQ hR
      exact rG hR
    | halt x w'=>
     cases x <;> simp only [Oper.uponIn] at h⊢
     exact h
   ·rename_i hw
    rw [if_neg hw]
    exact ⟨h.1,rG h.2⟩

theorem fM.append {ops:Array Oper} {i j:List Nat} {f cE f':Nat→Value} {h h₁ h':ae} (a:fM P N ops i f h cE h₁) (b:fM P N ops j cE h₁ f' h'):fM P N ops (i++j) f h f' h':=by
 intro S B ρ ac w R Q hq
 refine rG (a S B ρ ac w R _ ?_)
 intro ar a' w' R' T
 exact b S B ar a' w' R' Q fun kj pG iQ mw T'=>hq kj pG iQ mw (T.trans T')

theorem AB {ops:Array Oper} {o:Oper} {x:gI} (h:vk P N ops o=some x):
  o.op.operands.all hY=true∧o.dst.all (·<N)=true∧rQ P o.op=some x.op∧Ey N ops o.guard=some x.guard∧x.dst=o.dst:=by
 unfold vk at h
 split at h
 ·rename_i hc
  simp only [Bool.and_eq_true] at hc
  split at h
  ·rename_i op g h1 h2
   simp at h;subst h
   exact ⟨hc.1,hc.2,h1,h2,rfl⟩
  ·cases h
 ·cases h

theorem rP {ops:Array Oper} {o:Oper} {os:List Oper} {l:List gI} (h:jL P N ops (o::os)=some l):∃x xs,vk P N ops o=some x∧jL P N ops os=some xs∧l=x::xs:=by
 simp only [jL] at h
 split at h
 ·rename_i x xs h1 h2
  simp at h
  exact ⟨x,xs,h1,h2,h.symm⟩
 ·cases h

theorem FI {ops:Array Oper}:∀{os:List Oper} {l:List gI} {i:Nat} {K:(Nat→Value)→ae→Prop} {f:Nat→Value} {h:ae},(∀(k:Nat) (o:Oper),os[k]?=some o→ops[i+k]?=some o)→jL P N ops os=some l→qj P l K f h→
  ∃f' h',fM P N ops (List.range' i os.length) f h f' h'∧K f' h'
 | [],l,i,K,f,h,_,hc,hi=>by
  simp [jL] at hc
  subst hc
  exact ⟨f,h,fM.nil,hi⟩
 | o::os,l,i,K,f,h,nT,hc,hi=>by
  obtain ⟨x,xs,h1,h2,rfl⟩:=rP hc
  obtain ⟨q1,q2,q3,q4,q5⟩:=AB h1
  have ho:ops[i]?=some o:=nT 0 o rfl
  have Fu:∀(k:Nat) (o':Oper),os[k]?=some o'→ops[i+1+k]?=some o':=by
   intro k o' hk
   have:=nT (k+1) o' (by simpa using hk)
   rw [show i+(k+1)=i+1+k by omega] at this
   exact this
  have go:∀(_:pQ x.guard f) (_:gD x.guard f=true),cL P x.op f h (fun v h'=>qj P xs K (cX f x.dst v) h')→
    ∃f' h',fM P N ops (List.range' i (o::os).length) f h f' h'∧K f' h':=by
   intro hb hw hs
   obtain ⟨v,h',dD,hk⟩:=w7 (N:=N) q3 q1 hs
   obtain ⟨AK,aR,r1,r2⟩:=FI Fu h2 hk
   refine ⟨AK,aR,?_,r2⟩
   rw [List.length_cons,List.range'_succ]
   rw [q5] at r1
   exact fM.step ho q2 (fun B ρ a w R=>by rw [Cn q4 R hb,hw]) dD r1
  have skip:∀(_:pQ x.guard f) (_:gD x.guard f=false),qj P xs K (cX f x.dst undef) h→
    ∃f' h',fM P N ops (List.range' i (o::os).length) f h f' h'∧K f' h':=by
   intro hb hw hs
   obtain ⟨AK,aR,r1,r2⟩:=FI Fu h2 hs
   refine ⟨AK,aR,?_,r2⟩
   rw [List.length_cons,List.range'_succ]
   rw [q5] at r1
   exact fM.pass ho q2 (fun B ρ a w R=>by rw [Cn q4 R hb,hw]) r1
  simp only [qj] at hi
  split at hi
  ·rename_i jj
   exact go (by rw [jj];trivial) (by rw [jj];rfl) hi
  ·rename_i s b jj
   obtain ⟨e1,e2⟩:=E1 hi
   rcases e2 with ⟨e2,e3⟩ | ⟨e2,e3⟩
   ·exact go (by rw [jj];exact e1) (by rw [jj];exact e2) e3
   ·exact skip (by rw [jj];exact e1) (by rw [jj];exact e2) e3

def nM (g:Option (Nat×Bool)) (l:List gR):List gI:=l.map fun o=>⟨o.dst,o.op,g⟩

def lK:List (Option (Nat×Bool)×List gR)→List gI
 | []=>[]
 | (g,l)::gs=>nM g l++lK gs

theorem EP:∀os:List gI,lK (qW os)=os
 | []=>rfl
 | o::os=>by
  have ih:=EP os
  simp only [qW]
  cases hg:qW os with
  | nil=>
   rw [hg] at ih
   simp only [lK] at ih
   subst ih
   simp [lK,nM]
  | cons a gs=>
   obtain ⟨g,l⟩:=a
   rw [hg] at ih
   simp only
   split
   ·rename_i he
    simp only [lK,nM,List.map_cons,List.cons_append] at ih⊢
    rw [ih,←he]
   ·simp only [lK,nM,List.map_cons,List.map_nil,List.cons_append,List.nil_append] at ih⊢
    rw [ih]

theorem Mu {v:Value} {b:Bool} {A B:Prop} (hb:sH v=false) (hA:od v b=true→A) (hB:od v b=false→B):jg v b A B:=by
 unfold jg
 split
 ·split
  ·rename_i c hc;exact hA hc
  ·rename_i c hc;exact hB (by simpa [od] using hc)
 ·simp [sH] at hb
 ·rename_i x h1 h2
  refine hB ?_
  cases v <;> first | rfl | exact absurd rfl (h1 _)

theorem ac9 {g:Option (Nat×Bool)} {K:(Nat→Value)→ae→Prop}:∀{l:List gR} {f:Nat→Value} {h:ae},(∀o∈l,leaves g o.dst=true)→qw P g l K f h→qj P (nM g l) K f h:=by
 intro l f h hl hk
 cases g with
 | none=>
  simp only [qw] at hk
  clear hl
  induction l generalizing f h with
  | nil=>exact hk
  | cons o l ih=>
   simp only [tO] at hk
   simp only [nM,List.map_cons,qj]
   have:cL P o.op f h (fun v h'=>qj P (nM none l) K (cX f o.dst v) h'):=by
    have mono:∀{io:fL} {K K':Value→ae→Prop},(∀v h,K v h→K' v h)→cL P io f h K→cL P io f h K':=by
     intro io K K' hm hs
     cases io with
     | p po=>simp only [cL,eK] at hs⊢;split at hs <;> first | exact hm _ _ hs | exact hs.elim
     | l lo=>simp only [cL,eK] at hs⊢;split at hs <;> first | exact hm _ _ hs | exact hs.elim
     | e eo=>simp only [cL,lh] at hs⊢;split at hs <;> first | exact hm _ _ hs | exact hs.elim
     | call g args=>exact hs.mono hm
     | jx x args=>simp only [cL,qO] at hs⊢;split at hs <;> first | exact ⟨hs.1,hs.2.mono hm⟩ | exact hs.elim
    exact mono (fun v h' b7=>ih b7) hk
   exact this
 | some sb=>
  obtain ⟨s,b⟩:=sb
  simp only [qw] at hk
  obtain ⟨e1,e2⟩:=E1 hk
  clear hk
  induction l generalizing f h with
  | nil=>
   rcases e2 with ⟨_,e⟩ | ⟨_,e⟩ <;> exact e
  | cons o l ih=>
   have hd:o.dst≠some s:=by simpa [leaves] using hl o (by simp)
   have hs:∀v,cX f o.dst v s=f s:=by
    intro v
    cases ho:o.dst with
    | none=>rfl
    | some d=>
     have:s≠d:=by rintro rfl;exact hd ho
     simp [cX,qD,this]
   simp only [nM,List.map_cons,qj]
   refine Mu e1 (fun hb=>?_) (fun hb=>?_)
   ·rcases e2 with ⟨_,e⟩ | ⟨e,_⟩
    ·simp only [tO] at e
     have mono:∀{io:fL} {K K':Value→ae→Prop},(∀v h,K v h→K' v h)→cL P io f h K→cL P io f h K':=by
      intro io K K' hm hs
      cases io with
      | p po=>simp only [cL,eK] at hs⊢;split at hs <;> first | exact hm _ _ hs | exact hs.elim
      | l lo=>simp only [cL,eK] at hs⊢;split at hs <;> first | exact hm _ _ hs | exact hs.elim
      | e eo=>simp only [cL,lh] at hs⊢;split at hs <;> first | exact hm _ _ hs | exact hs.elim
      | call g args=>exact hs.mono hm
      | jx x args=>simp only [cL,qO] at hs⊢;split at hs <;> first | exact ⟨hs.1,hs.2.mono hm⟩ | exact hs.elim
     refine mono (fun v h' b7=>?_) e
     exact ih (fun o' c9=>hl o' (by simp [c9])) (by rw [hs];exact e1) (.inl ⟨by rw [hs];exact hb,b7⟩)
    ·rw [hb] at e;cases e
   ·rcases e2 with ⟨e,_⟩ | ⟨_,e⟩
    ·rw [hb] at e;cases e
    ·exact ih (fun o' c9=>hl o' (by simp [c9])) (by rw [hs];exact e1) (.inr ⟨by rw [hs];exact hb,e⟩)

theorem Lz {ops:Array Oper}:∀{os:List Oper} {m0 m1:List gI},jL P N ops os=some (m0++m1)→∃jV fA,os=jV++fA∧jL P N ops jV=some m0∧jL P N ops fA=some m1
 | os,[],m1,h=>⟨[],os,rfl,rfl,h⟩
 | [],x::m0,m1,h=>by simp [jL] at h
 | o::os,x::m0,m1,h=>by
  obtain ⟨y,ys,h1,h2,he⟩:=rP h
  simp only [List.cons_append,List.cons.injEq] at he
  obtain ⟨rfl,rfl⟩:=he
  obtain ⟨jV,fA,rfl,e1,e2⟩:=Lz h2
  refine ⟨o::jV,fA,rfl,?_,e2⟩
  simp [jL,h1,e1]

theorem XU {ls:List Nat} {c:dT} {K:Exit→(Nat→Value)→ae→Prop} {f:Nat→Value} {h:ae} (hi:gN P (tF ls c) K f h):∃f',qF f' f∧gN P c K f' h:=by
 cases ls with
 | nil=>exact ⟨f,fun _=>.inl rfl,hi⟩
 | cons l ls=>exact ⟨_,BO f (l::ls),hi⟩

theorem ayb {ops:Array Oper}:∀{gs:List (Option (Nat×Bool)×List gR)} {hs:Hints} {os:List Oper} {i:Nat} {K:Exit→(Nat→Value)→ae→Prop} {f:Nat→Value} {h:ae},
  (∀(k:Nat) (o:Oper),os[k]?=some o→ops[i+k]?=some o)→jL P N ops os=some (lK gs)→(∀g l,(g,l)∈gs→∀o∈l,leaves g o.dst=true)→gN P (ow gs hs).1 K f h→
  ∃f' h',fM P N ops (List.range' i os.length) f h f' h'∧K .normal f' h':=by
 intro gs
 induction gs with
 | nil=>
  intro hs os i K f h nT hc _ hi
  cases os with
  | nil=>exact ⟨f,h,fM.nil,hi⟩
  | cons o os=>
   obtain ⟨x,xs,_,_,he⟩:=rP hc
   simp [lK] at he
 | cons a gs ih=>
  obtain ⟨g,l⟩:=a
  intro hs os i K f h nT hc hl hi
  simp only [lK] at hc
  obtain ⟨jV,fA,rfl,c0,c1⟩:=Lz hc
  have Fv:∀(k:Nat) (o:Oper),jV[k]?=some o→ops[i+k]?=some o:=by
   intro k o hk
   refine nT k o ?_
   rw [List.getElem?_append_left (List.getElem?_eq_some_iff.1 hk).1]
   exact hk
  have M6:∀(k:Nat) (o:Oper),fA[k]?=some o→ops[i+jV.length+k]?=some o:=by
   intro k o hk
   rw [Nat.add_assoc]
   refine nT _ o ?_
   rw [List.getElem?_append_right (by omega)]
   simpa using hk
  have first:∀{K:(Nat→Value)→ae→Prop},qw P g l K f h→∃f' h',fM P N ops (List.range' i jV.length) f h f' h'∧K f' h':=by
   intro K hk
   exact FI Fv c0 (ac9 (fun o ho=>hl g l (by simp) o ho) hk)
  have both:∀{cE:Nat→Value} {h₁:ae} {f':Nat→Value} {h':ae},fM P N ops (List.range' i jV.length) f h cE h₁→fM P N ops (List.range' (i+jV.length) fA.length) cE h₁ f' h'→fM P N ops (List.range' i (jV++fA).length) f h f' h':=by
   intro cE h₁ f' h' a b
   rw [List.length_append,←List.range'_append_1]
   exact a.append b
  have rest:∀{hs:Hints} {cE:Nat→Value} {h₁:ae},gN P (ow gs hs).1 K cE h₁→∃f' h',fM P N ops (List.range' (i+jV.length) fA.length) cE h₁ f' h'∧K .normal f' h':=
   fun hk=>ih M6 c1 (fun g' l' hm=>hl g' l' (by simp [hm])) hk
  cases gs with
  | nil=>
   have Bj:gN P (.ops g l) K f h:=by
    cases hs <;> exact hi
   obtain ⟨f',h',r1,r2⟩:=first Bj
   have h1:fA=[]:=by
    cases fA with
    | nil=>rfl
    | cons o os=>obtain ⟨x,xs,_,_,he⟩:=rP c1;simp [lK] at he
   subst h1
   exact ⟨f',h',by simpa using r1,r2⟩
  | cons b gs=>
   cases hs with
   | nil=>
    obtain ⟨cE,h₁,r1,r2⟩:=first (K:=fun f h=>gN P (ow (b::gs) []).1 K f h) hi
    obtain ⟨f',h',s1,s2⟩:=rest r2
    exact ⟨f',h',both r1 s1,s2⟩
   | cons h0 hs=>
    obtain ⟨cE,h₁,r1,r2⟩:=first (K:=fun f h=>gN P (tF h0 (ow (b::gs) hs).1) K f h) hi
    obtain ⟨Mf,hw,r3⟩:=XU r2
    obtain ⟨f',h',s1,s2⟩:=rest r3
    exact ⟨f',h',both r1 (s1.weaken hw),s2⟩

def oh (S:Option Nat) (P:Program) (c:Code) (Q:Exit→Act→World→Prop) (a:Act) (w:World):Prop:=
 ∀(b:Frame) (k:List Item) (cs:List Frame),b.roundOf=S→
  ∃e a' w',Q e a' w'∧ArrivesIn (Machine.fenced P (FR S)) P (lone (b.atR a (.code c:: .inLoop c::k)) cs w) b k cs e a' w'

theorem FR.room (S:Option Nat) (n:Nat):(FR S).room n:=fun _ h=>by cases h

theorem oh.wp {S:Option Nat} {c:Code} {Q:Exit→Act→World→Prop} {a:Act} {w:World} (h:oh S P c Q a w):(Code.loop c).wpIn (FR S) 0 P Q a w:=by
 intro b k cs iM hb hr
 obtain ⟨e,a',w',q,r⟩:=h b k cs iM
 exact ⟨e,a',w',q,.of_steps (.one (fenced_calm hb hr rfl) stepR_loop) r⟩

theorem oh.round {S:Option Nat} {c:Code} {Q:Exit→Act→World→Prop} {a:Act} {w:World} (h:c.wpIn (FR S) 0 P (Exit.then (oh S P c Q) Q) a w):oh S P c Q a w:=by
 intro b k cs iM
 have hb:(FR S).fn b.fn:=trivial
 have hr:(FR S).room (cs.length+1+0):=FR.room S _
 obtain ⟨e,uY,mf,hq,tP⟩:=h b (.inLoop c::k) cs iM hb hr
 cases e with
 | normal=>
  obtain ⟨aq4,al3,HQ,asj,arD⟩:=hq b k cs iM
  exact ⟨aq4,al3,HQ,asj,.of_steps (StepsIn.trans tP (.one (fenced_calm hb hr rfl) stepR_inLoop)) arD⟩
 | exit id=>exact ⟨_,uY,mf,hq,.pass (x:=.inLoop c) rfl (fun _ _=>.inl (by simp)) tP⟩
 | goto l=>exact ⟨_,uY,mf,hq,.pass (x:=.inLoop c) rfl (fun _ _=>.inl (by simp)) tP⟩
 | ret=>exact ⟨_,uY,mf,hq,.pass (x:=.inLoop c) rfl (fun _ _=>.inl (by simp)) tP⟩
 | panic ch=>exact ⟨_,uY,mf,hq,.pass (x:=.inLoop c) rfl (fun _ _=>.inl (by simp)) tP⟩
 | outgrown=>exact ⟨_,uY,mf,hq,.pass (x:=.inLoop c) rfl (fun _ _=>.inl (by simp)) tP⟩

theorem aaL {l:List gI} (h:l.all (fun o=>leaves o.guard o.dst)=true):∀g m,(g,m)∈qW l→∀o∈m,leaves g o.dst=true:=by
 intro g m hm o ho
 have oS:(⟨o.dst,o.op,g⟩:gI)∈lK (qW l):=by
  generalize qW l=gs at hm
  induction gs with
  | nil=>simp at hm
  | cons a gs ih=>
   obtain ⟨g',m'⟩:=a
   simp only [lK,List.mem_append]
   rcases List.mem_cons.1 hm with he | hm
   ·cases he
    left
    simp only [nM,List.mem_map]
    exact ⟨o,ho,rfl⟩
   ·exact .inr (ih hm)
 rw [EP] at oS
 rw [List.all_eq_true] at h
 exact h _ oS

def nE (P:Program) (N:Nat) (out:Bool) (c:Code) (f:Nat→Value) (h:ae) (e:Exit) (f':Nat→Value) (h':ae):Prop:=
 ∀S,(out=true→S=none)→∀B ρ a w,Rel P N B ρ f h a w→oh S P c (uQ P N B ρ h w e f' h') a w

theorem oh.mono {S:Option Nat} {c:Code} {Q Q':Exit→Act→World→Prop} {a:Act} {w:World} (h:oh S P c Q a w) (hq:∀e a w,Q e a w→Q' e a w):oh S P c Q' a w:=
 fun b k cs iM=>let ⟨e,a',w',q,r⟩:=h b k cs iM;⟨e,a',w',hq _ _ _ q,r⟩

theorem uQ.trans {B:Nat} {ρ kL:aI} {h h₁ h':ae} {w mf:World} {e:Exit} {f':Nat→Value} (T:Tr ρ h w kL h₁ mf):∀e' a' w',uQ P N B kL h₁ mf e f' h' e' a' w'→uQ P N B ρ h w e f' h' e' a' w':=by
 rintro e' a' w' ⟨rfl,ar,R,T'⟩
 exact ⟨rfl,ar,R,T.trans T'⟩

variable {out : Bool}

theorem nE.next {c:Code} {f cE f':Nat→Value} {h h₁ h':ae} {e:Exit} (a:fE P N out c f h .normal cE h₁) (b:nE P N out c cE h₁ e f' h'):nE P N out c f h e f' h':=by
 intro S hS B ρ ac w R
 refine oh.round (wpIn_mono (a S hS B ρ ac w R) ?_)
 rintro e' a' w' ⟨rfl,ar,R',T⟩
 exact (b S hS B ar a' w' R').mono (uQ.trans T)

theorem nE.leave {c:Code} {f f':Nat→Value} {h h':ae} {e:Exit} (he:e≠ .normal) (a:fE P N out c f h e f' h'):nE P N out c f h e f' h':=by
 intro S hS B ρ ac w R
 refine oh.round (wpIn_mono (a S hS B ρ ac w R) ?_)
 rintro e' a' w' ⟨rfl,ar,R',T⟩
 cases e' <;> first | exact absurd rfl he | exact ⟨rfl,ar,R',T⟩

theorem nE.run {c:Code} {f f':Nat→Value} {h h':ae} {e:Exit} (a:nE P N out c f h e f' h'):fE P N out (.loop c) f h e f' h':=fun S hS B ρ ac w R=>(a S hS B ρ ac w R).wp

theorem fE.seq {x y:Code} {f cE f':Nat→Value} {h h₁ h':ae} {e:Exit} (a:fE P N out x f h .normal cE h₁) (b:fE P N out y cE h₁ e f' h'):fE P N out (.seq x y) f h e f' h':=by
 intro S hS B ρ ac w R
 refine wpIn_seq (wpIn_mono (a S hS B ρ ac w R) ?_)
 rintro e' a' w' ⟨rfl,ar,R',T⟩
 exact wpIn_mono (b S hS B ar a' w' R') (uQ.trans T)

theorem fE.ayY {x y:Code} {f f':Nat→Value} {h h':ae} {e:Exit} (he:e≠ .normal) (a:fE P N out x f h e f' h'):fE P N out (.seq x y) f h e f' h':=by
 intro S hS B ρ ac w R
 refine wpIn_seq (wpIn_mono (a S hS B ρ ac w R) ?_)
 rintro e' a' w' ⟨rfl,ar,R',T⟩
 cases e' <;> first | exact absurd rfl he | exact ⟨rfl,ar,R',T⟩

theorem fE.block {id:Nat} {c:Code} {f f':Nat→Value} {h h':ae} {e:Exit} (a:fE P N out c f h e f' h'):fE P N out (.block id c) f h (match e with | .exit i=>if i=id then .normal else .exit i | e=>e) f' h':=by
 intro S hS B ρ ac w R
 refine wpIn_block (wpIn_mono (a S hS B ρ ac w R) ?_)
 rintro e' a' w' ⟨rfl,ar,R',T⟩
 cases e' with
 | exit i=>
  simp only [Exit.inBlock]
  split
  ·exact ⟨rfl,ar,R',T⟩
  ·exact ⟨rfl,ar,R',T⟩
 | _=>exact ⟨rfl,ar,R',T⟩

theorem fE.cond {c:Operand} {x y:Code} {t:Bool} {f f':Nat→Value} {h h':ae} {e:Exit} (hc:hY c=true) (ht:ev f c=.bool t) (a:fE P N out (if t then x else y) f h e f' h'):fE P N out (.cond c x y) f h e f' h':=by
 intro S hS B ρ ac w R
 have:=R.ev hc
 rw [ht] at this
 exact wpIn_cond this.ve (a S hS B ρ ac w R)

theorem fE.region {id:Nat} {ops:Array Oper} {f f':Nat→Value} {h h':ae} (a:fM P N ops (List.range ops.size) f h f' h'):fE P N out (.region id ops false) f h .normal f' h':=by
 intro S hS B ρ ac w R
 refine wpIn_region (a S B ρ ac w R _ ?_)
 intro ar a' w' R' T
 exact ⟨rfl,ar,R',T⟩

theorem nE.weaken {c:Code} {f cE f':Nat→Value} {h h':ae} {e:Exit} (hw:qF cE f) (hr:nE P N out c cE h e f' h'):nE P N out c f h e f' h':=
 fun S hS B ρ a w R=>hr S hS B ρ a w (R.weaken hw)

end
end Go.Sim


namespace Go.Sim

inductive Valid (ops:Array Oper):List Nat→List Nat→Prop
 | nil {S:List Nat}:(∀i,i<ops.size→i∈S)→Valid ops S []
 | cons {S:List Nat} {i:Nat} {o:Oper} {l:List Nat}:ops[i]?=some o→i∉S→(∀e∈eD o,e∈S)→Valid ops (i::S) l→Valid ops S (i::l)

theorem Dc:∀{ops:List Oper} {i:Nat},u7 ops i=true→∀(k:Nat) (o:Oper),ops[k]?=some o→∀e∈eD o,e<i+k
 | [],i,_,k,o,hk=>by simp at hk
 | x::ops,i,h,k,o,hk=>by
  simp only [u7,Bool.and_eq_true,List.all_eq_true,decide_eq_true_eq] at h
  cases k with
  | zero=>simp at hk;subst hk;exact h.1
  | succ k=>
   intro e he
   have:=Dc h.2 k o (by simpa using hk) e he
   omega

def ready (ops:Array Oper) (gf:Array Bool) (i:Nat):Bool:=
 !gf.getD i true&&((ops[i]?).map (·.after.all fun e=> !Region.binds .any e||gf.getD e.on false)).getD false

theorem go_eq (ops:Array Oper) (fuel t:Nat) (gf:Array Bool) (acc:List Nat):
  Region.linearise.go .any ops (fuel+1) t gf acc=
   match ((List.range ops.size).filter (ready ops gf))[t%((List.range ops.size).filter (ready ops gf)).length]? with
   | some i=>Region.linearise.go .any ops fuel (t / ((List.range ops.size).filter (ready ops gf)).length) (gf.setIfInBounds i true) (i::acc)
   | none=>acc.reverse:=by
 rw [Region.linearise.go]
 rfl

theorem agZ {ops:Array Oper} {gf:Array Bool} {S:List Nat} (hl:gf.size=ops.size) (hS:∀i,i<ops.size→(gf.getD i false=true↔i∈S)) (hb:∀(k:Nat) (o:Oper),ops[k]?=some o→∀e∈eD o,e<k)
  {i:Nat} (hi:i<ops.size):ready ops gf i=true↔i∉S∧∀o,ops[i]?=some o→∀e∈eD o,e∈S:=by
 have ho:ops[i]?=some ops[i]:=by simp [hi]
 have e1:gf.getD i true=gf.getD i false:=by simp [Array.getD,hl,hi]
 unfold ready
 rw [e1,ho]
 simp only [Option.map_some,Option.getD_some,Bool.and_eq_true,Bool.not_eq_true',Option.some.injEq,forall_eq']
 have h1:gf.getD i false=false↔i∉S:=by
  rw [←hS i hi]
  cases gf.getD i false <;> simp
 rw [h1]
 refine and_congr_right fun _=>?_
 rw [Array.all_eq_true']
 constructor
 ·intro h e he
  have aB:=hb i _ ho e he
  unfold eD at he
  simp only [List.mem_filterMap] at he
  obtain ⟨x,hx,ui⟩:=he
  split at ui
  ·rename_i yr
   simp at ui
   subst ui
   have:=h x (by simpa using hx)
   simp only [Bool.or_eq_true,Bool.not_eq_true',yr] at this
   exact (hS _ (by omega)).1 (by simpa using this)
  ·cases ui
 ·intro h x hx
  cases yr:Region.binds .any x with
  | false=>simp
  | true=>
   have hm:x.on∈eD ops[i]:=by
    unfold eD
    simp only [List.mem_filterMap]
    exact ⟨x,by simpa using hx,by simp [yr]⟩
   have aB:=hb i _ ho _ hm
   simp [(hS x.on (by omega)).2 (h _ hm)]

theorem F8:∀{l m:List Nat},l.Nodup→l ⊆ m→l.length≤m.length
 | [],m,_,_=>by simp
 | x::l,m,hd,hs=>by
  have hx:x∈m:=hs (by simp)
  rw [List.nodup_cons] at hd
  have h1:l ⊆ m.erase x:=by
   intro y hy
   have br:y≠x:=by rintro rfl;exact hd.1 hy
   exact (List.mem_erase_of_ne br).2 (hs (by simp [hy]))
  have h2:=F8 hd.2 h1
  rw [List.length_erase_of_mem hx] at h2
  have:0<m.length:=List.length_pos_of_mem hx
  simp
  omega

theorem apR {n:Nat} {S:List Nat} (hlen:S.length<n):∃i,i<n∧i∉S∧∀k,k<i→k∈S:=by
 have hex:∃i,i<n∧i∉S:=by
  apply Classical.byContradiction
  intro cU
  have eQ:∀i,i<n→i∈S:=fun i hi=>Classical.byContradiction fun h=>cU ⟨i,hi,h⟩
  have oW:List.range n ⊆ S:=fun i hi=>eQ i (List.mem_range.1 hi)
  have:=F8 (List.nodup_range (n:=n)) oW
  simp at this
  omega
 have key:∀m,(∃i,i<m∧i<n∧i∉S)→∃i,i<n∧i∉S∧∀k,k<i→k∈S:=by
  intro m
  induction m with
  | zero=>rintro ⟨i,h,_⟩;omega
  | succ m ih=>
   rintro ⟨i,h1,h2,h3⟩
   by_cases dC:∃i,i<m∧i<n∧i∉S
   ·exact ih dC
   ·have mG:i=m:=by
     by_cases e:i=m
     ·exact e
     ·exact absurd ⟨i,by omega,h2,h3⟩ dC
    subst mG
    refine ⟨i,h2,h3,fun k hk=>Classical.byContradiction fun Ba=>dC ⟨k,hk,by omega,Ba⟩⟩
 obtain ⟨i,h1,h2⟩:=hex
 exact key n ⟨i,h1,h1,h2⟩

theorem YF {ops:Array Oper} (hb:∀(k:Nat) (o:Oper),ops[k]?=some o→∀e∈eD o,e<k):∀(fuel t:Nat) (gf:Array Bool) (acc:List Nat),gf.size=ops.size→
  (∀i,i<ops.size→(gf.getD i false=true↔i∈acc))→acc.Nodup→(∀i∈acc,i<ops.size)→acc.length+fuel=ops.size→
  ∃l,Region.linearise.go .any ops fuel t gf acc=acc.reverse++l∧Valid ops acc l
 | 0,t,gf,acc,hl,hS,hd,aB,hf=>by
  refine ⟨[],by simp [Region.linearise.go],.nil ?_⟩
  intro i hi
  apply Classical.byContradiction
  intro h
  have oW:(i::acc) ⊆ List.range ops.size:=by
   intro x hx
   rcases List.mem_cons.1 hx with rfl | hx
   ·simpa using hi
   ·simpa using aB x hx
  have:=F8 (List.nodup_cons.2 ⟨h,hd⟩) oW
  simp at this
  omega
 | fuel+1,t,gf,acc,hl,hS,hd,aB,hf=>by
  rw [go_eq]
  obtain ⟨i0,yC,arU,arT⟩:=apR (n:=ops.size) (S:=acc) (by omega)
  have p7:ready ops gf i0=true:=(agZ hl hS hb yC).2 ⟨arU,fun o ho e he=>arT e (hb i0 o ho e he)⟩
  have gU:0<((List.range ops.size).filter (ready ops gf)).length:=List.length_pos_of_mem (List.mem_filter.2 ⟨List.mem_range.2 yC,p7⟩)
  have bP:∃i,((List.range ops.size).filter (ready ops gf))[t%((List.range ops.size).filter (ready ops gf)).length]?=some i:=⟨_,List.getElem?_eq_getElem (Nat.mod_lt _ gU)⟩
  obtain ⟨i,hi⟩:=bP
  rw [hi]
  have oS:=List.mem_of_getElem? hi
  simp only [List.mem_filter,List.mem_range] at oS
  obtain ⟨iK,asm⟩:=oS
  obtain ⟨su,vV⟩:=(agZ hl hS hb iK).1 asm
  obtain ⟨l,h1,h2⟩:=YF hb fuel (t / ((List.range ops.size).filter (ready ops gf)).length) (gf.setIfInBounds i true) (i::acc) (by simpa using hl) (by
   intro k hk
   by_cases e:k=i
   ·subst e;simp [Array.getD,hl,hk]
   ·have:(gf.setIfInBounds i true).getD k false=gf.getD k false:=by
     simp only [Array.getD_eq_getD_getElem?,Array.getElem?_setIfInBounds]
     rw [if_neg (Ne.symm e)]
    rw [this,hS k hk]
    simp [e]) (List.nodup_cons.2 ⟨su,hd⟩) (by
   intro k hk
   rcases List.mem_cons.1 hk with rfl | hk
   ·exact iK
   ·exact aB k hk) (by simp;omega)
  refine ⟨i::l,by simp only [h1];simp,?_⟩
  exact .cons (o:=ops[i]) (by simp [iK]) su (vV _ (by simp [iK])) h2

theorem aaN {ops:Array Oper} (hb:u7 ops.toList 0=true) (t:Nat):Valid ops [] (Region.linearise .any ops t):=by
 have kQ:∀(k:Nat) (o:Oper),ops[k]?=some o→∀e∈eD o,e<k:=by
  intro k o hk e he
  have:=Dc hb k o (by simpa using hk) e he
  omega
 obtain ⟨l,h1,h2⟩:=YF kQ ops.size t (Array.replicate ops.size false) [] (by simp) (by intro i hi;simp [Array.getD,hi]) .nil (by simp) (by simp)
 have:Region.linearise .any ops t=l:=by
  unfold Region.linearise
  rw [h1]
  simp
 rw [this]
 exact h2

end Go.Sim


namespace Go.Sim


theorem LY {f f':Nat→Value}:∀{l:List Operand},(∀t∈tmpsOf l,f t=f' t)→∀x∈l,ev f x=ev f' x
 | [],_,x,hx=>by simp at hx
 | y::l,h,x,hx=>by
  have h':∀t∈tmpsOf l,f t=f' t:=by
   intro t ht
   apply h
   cases y <;> simp [tmpsOf,ht]
  rcases List.mem_cons.1 hx with rfl | hx
  ·cases x with
   | tmp t=>exact h t (by simp [tmpsOf])
   | _=>rfl
  ·exact LY h' x hx

theorem BJ {g g':Operand→Value} {xs:List Operand} (h:∀x∈xs,g x=g' x):xs.map g=xs.map g':=List.map_congr_left h

theorem Gf {g g':Operand→Value} {x:Option Operand} (h:∀y∈x.toList,g y=g' y):x.map g=x.map g':=by
 cases x with
 | none=>rfl
 | some y=>simp [h y (by simp)]

theorem GP {g g':Operand→Value} {ps:List (Nat×Nat×Operand)} (h:∀x∈ps.map (·.2.2),g x=g' x):(ps.map fun (o,s,x)=>(o,s,g x))=ps.map fun (o,s,x)=>(o,s,g' x):=by
 apply List.map_congr_left
 rintro ⟨o,s,x⟩ hx
 simp [h x (by simp;exact ⟨o,s,hx⟩)]

theorem as3 {o:nG} {g g':Operand→Value} (h:∀x∈o.fR,g x=g' x):hX o g=hX o g':=by
 cases o with
 | BK mx xs=>
  simp only [hX]
  rw [BJ (xs:=xs) h]
 | Hr x lo hi=>
  simp only [hX,nG.fR] at*
  rw [h x (by simp),Gf (x:=lo) (fun y hy=>h y (by simp at hy⊢;exact .inr (.inl hy))),Gf (x:=hi) (fun y hy=>h y (by simp at hy⊢;exact .inr (.inr hy)))]
 | Ht e s x lo hi=>
  simp only [hX,nG.fR] at*
  rw [h x (by simp),Gf (x:=lo) (fun y hy=>h y (by simp at hy⊢;exact .inr (.inl hy))),Gf (x:=hi) (fun y hy=>h y (by simp at hy⊢;exact .inr (.inr hy)))]
 | fn f first captured=>
  simp only [hX,nG.fR] at*
  rw [BJ (xs:=first) (fun x hx=>h x (by simp [hx])),BJ (xs:=captured) (fun x hx=>h x (by simp [hx]))]
 | build zero parts=>
  simp only [hX]
  rw [GP (ps:=parts) h]
 | _=>simp [nG.fR] at h;simp [hX,h]

theorem as0 {o:mT} {g g':Operand→Value} (h:∀x∈o.fR,g x=g' x) (H:ae):eJ o g H=eJ o g' H:=by
 cases o <;> simp [mT.fR] at h <;> simp [eJ,h]

theorem asX {o:mR} {g g':Operand→Value} (h:∀x∈o.fR,g x=g' x) (H:ae):fv o g H=fv o g' H:=by
 cases o with
 | kZ e n zs ps=>
  simp only [fv]
  rw [GP (ps:=ps) h]
 | fl a=>
  cases a with
  | kZ e n zs ps=>
   simp only [fv]
   rw [GP (ps:=ps) h]
  | _=>simp [mR.fR,kl.fR] at h;simp [fv,h]
 | _=>simp [mR.fR] at h;simp [fv,h]

theorem Hx {P:Program} {io:fL} {f f':Nat→Value} {h:ae} {K:Value→ae→Prop} (hf:∀t∈tmpsOf io.fR,f t=f' t):cL P io f h K↔cL P io f' h K:=by
 have he:=LY hf
 cases io with
 | p o=>simp only [cL];rw [as3 he]
 | l o=>simp only [cL];rw [as0 he]
 | e o=>simp only [cL];rw [asX he]
 | call g args=>
  simp only [cL]
  rw [BJ (xs:=args) he]
 | jx x args=>simp only [cL];rw [he x (by simp [fL.fR]),BJ (xs:=args) (fun y hy=>he y (by simp [fL.fR,hy]))]


structure Trace (P:Program) (l:List cD) (j0:Nat) (F:Nat→Nat→Value) (H:Nat→ae) (V:Nat→Value):Prop where
 uD:∀k o,l[k]?=some o→F (j0+k+1)=cX (F (j0+k)) o.op.dst (V (j0+k))
 Mq:∀k o,l[k]?=some o→pQ o.op.guard (F (j0+k))
 yes:∀k o,l[k]?=some o→gD o.op.guard (F (j0+k))=true→cL P o.op.op (F (j0+k)) (H (j0+k)) fun v h'=>v=V (j0+k)∧h'=H (j0+k+1)
 no:∀k o,l[k]?=some o→gD o.op.guard (F (j0+k))=false→V (j0+k)=undef∧H (j0+k+1)=H (j0+k)
 P7:∀e oe k ok lo,l[e]?=some oe→oe.op.op.cW=true→l[k]?=some ok→ok.op.op=.l lo→gD ok.op.guard (F (j0+k))=true→e<k→ok.pre.testBit (j0+e)=false→
  eJ lo (ev (F (j0+k))) (H (j0+e))=some (V (j0+k))
 Me:∀k ok lo e oe,l[k]?=some ok→ok.op.op=.l lo→gD ok.op.guard (F (j0+k))=true→l[e]?=some oe→oe.op.op.cW=true→k<e→oe.pre.testBit (j0+k)=false→
  eJ lo (ev (F (j0+k))) (H (j0+e+1))=some (V (j0+k))
 Yv:∀k ok a,l[k]?=some ok→ok.op.op=.e (.fl a)→gD ok.op.guard (F (j0+k))=true→∃u,ee (H (j0+k+1)) (V (j0+k))=some u∧
  ∀e oe,l[e]?=some oe→oe.op.op.cW=true→k<e→oe.pre.testBit (j0+k)=false→ee (H (j0+e+1)) (V (j0+k))=some u

theorem Lw {pre:Nat} {lo:mT} {f:Nat→Value} {v:Value}:∀{hs:List (Nat×ae)},tD pre lo f v hs→∀e H,(e,H)∈hs→pre.testBit e=false→eJ lo (ev f) H=some v
 | [],_,e,H,hm,_=>by simp at hm
 | (e',H')::r,h,e,H,hm,hp=>by
  simp only [tD] at h
  rcases List.mem_cons.1 hm with hq | hm
  ·cases hq
   rw [if_neg (by rw [hp];simp)] at h
   exact h.1
  ·split at h
   ·exact Lw h e H hm hp
   ·exact Lw h.2 e H hm hp

theorem AA {pre:Nat} {H:ae}:∀{ls:dN},jK pre H ls→∀j lo f v,(j,lo,f,v)∈ls→pre.testBit j=false→eJ lo (ev f) H=some v
 | [],_,j,lo,f,v,hm,_=>by simp at hm
 | (j',mL,f',v')::r,h,j,lo,f,v,hm,hp=>by
  simp only [jK] at h
  rcases List.mem_cons.1 hm with hq | hm
  ·cases hq
   rw [if_neg (by rw [hp];simp)] at h
   exact h.1
  ·split at h
   ·exact AA h j lo f v hm hp
   ·exact AA h.2 j lo f v hm hp

def Ah (P:Program) (l:List cD) (j:Nat) (aK:List (Nat×ae)) (aG:dN) (K:(Nat→Value)→ae→Prop) (f:Nat→Value) (h:ae):Prop:=
 ∃F H V,F j=f∧H j=h∧K (F (j+l.length)) (H (j+l.length))∧Trace P l j F H V∧
  (∀e Hh,(e,Hh)∈aK→∀k ok lo,l[k]?=some ok→ok.op.op=.l lo→gD ok.op.guard (F (j+k))=true→ok.pre.testBit e=false→eJ lo (ev (F (j+k))) Hh=some (V (j+k)))∧
  (∀i lo ff v,(i,lo,ff,v)∈aG→∀e oe,l[e]?=some oe→oe.op.op.cW=true→oe.pre.testBit i=false→eJ lo (ev ff) (H (j+e+1))=some v)

theorem NN {P:Program}:∀{l:List cD} {j:Nat} {aK:List (Nat×ae)} {aG:dN} {K:(Nat→Value)→ae→Prop} {f:Nat→Value} {h:ae},jD P l j aK aG K f h→Ah P l j aK aG K f h
 | [],j,aK,aG,K,f,h,hi=>
  ⟨fun _=>f,fun _=>h,fun _=>undef,rfl,rfl,hi,⟨fun k o hk=>by simp at hk,fun k o hk=>by simp at hk,fun k o hk=>by simp at hk,fun k o hk=>by simp at hk,fun e oe k ok lo hk=>by simp at hk,fun k ok lo e oe hk=>by simp at hk,fun k ok a hk=>by simp at hk⟩,
   fun e Hh hm k ok lo hk=>by simp at hk,fun i lo ff v hm e oe hk=>by simp at hk⟩
 | o::os,j,aK,aG,K,f,h,hi=>by
  -- fS rest,and how fS first step is laid ahead of it
  have key:∀(v:Value) (h':ae) (m9:List (Nat×ae)) (mM:dN),pQ o.op.guard f→jD P os (j+1) m9 mM K (cX f o.op.dst v) h'→
    (∀p∈aK,p∈m9)→(∀p∈aG,p∈mM)→(o.op.op.cW=true→(j,h)∈m9)→(∀lo,o.op.op=.l lo→gD o.op.guard f=true→(j,lo,f,v)∈mM)→
    (gD o.op.guard f=true→cL P o.op.op f h fun u g=>u=v∧g=h')→(gD o.op.guard f=false→v=undef∧h'=h)→
    (∀lo,o.op.op=.l lo→gD o.op.guard f=true→∀e Hh,(e,Hh)∈aK→o.pre.testBit e=false→eJ lo (ev f) Hh=some v)→
    (o.op.op.cW=true→∀i lo ff u,(i,lo,ff,u)∈aG→o.pre.testBit i=false→eJ lo (ev ff) h'=some u)→
    (∀a,o.op.op=.e (.fl a)→gD o.op.guard f=true→∃u,ee h' v=some u∧(j,.obj (.const v),f,u)∈mM)→
    Ah P (o::os) j aK aG K f h:=by
   intro v h' m9 mM ji Nh hh hl hE hL hy hn hp hf pW
   obtain ⟨F,H,V,f1,f2,f3,T,fp,ff⟩:=NN Nh
   have Gh:∀{α:Type} (x:α) (G:Nat→α),∃G2:Nat→α,G2 j=x∧(∀k,G2 (j+k+1)=G (j+1+k))∧∀k,G2 (j+(k+1))=G (j+1+k):=by
    intro α x G
    refine ⟨fun k=>if k=j then x else G k,by simp,fun k=>?_,fun k=>?_⟩
    ·show (if j+k+1=j then x else G (j+k+1))=_
     rw [if_neg (by omega)]
     congr 1
     omega
    ·show (if j+(k+1)=j then x else G (j+(k+1)))=_
     rw [if_neg (by omega)]
     congr 1
     omega
   obtain ⟨F2,rS,Ye,eF⟩:=Gh f F
   obtain ⟨H2,EI,tJ,eH⟩:=Gh h H
   obtain ⟨V2,vv,eV1,eV⟩:=Gh v V
   have aqK:F2 (j+1)=F (j+1):=Ye 0
   have EJ:H2 (j+1)=H (j+1):=tJ 0
   refine ⟨F2,H2,V2,rS,EI,?_,?_,?_,?_⟩
   ·rw [List.length_cons,eF,eH]
    exact f3
   ·constructor
    ·intro k ok hk
     cases k with
     | zero=>
      simp at hk;subst hk
      simp only [Nat.add_zero]
      rw [aqK,rS,vv]
      exact f1
     | succ k=>
      have:=T.uD k ok (by simpa using hk)
      rw [Ye,eF,eV,show j+1+(k+1)=j+1+k+1 by omega]
      exact this
    ·intro k ok hk
     cases k with
     | zero=>
      simp at hk;subst hk
      simp only [Nat.add_zero]
      rw [rS]
      exact ji
     | succ k=>
      rw [eF]
      exact T.Mq k ok (by simpa using hk)
    ·intro k ok hk hw
     cases k with
     | zero=>
      simp at hk;subst hk
      simp only [Nat.add_zero] at hw⊢
      rw [rS] at hw
      rw [EJ,rS,EI,vv,f2]
      exact hy hw
     | succ k=>
      rw [eF] at hw
      rw [tJ,eF,eH,eV,show j+1+(k+1)=j+1+k+1 by omega]
      exact T.yes k ok (by simpa using hk) hw
    ·intro k ok hk hw
     cases k with
     | zero=>
      simp at hk;subst hk
      simp only [Nat.add_zero] at hw⊢
      rw [rS] at hw
      rw [EJ,EI,vv,f2]
      exact hn hw
     | succ k=>
      rw [eF] at hw
      rw [tJ,eH,eV,show j+1+(k+1)=j+1+k+1 by omega]
      exact T.no k ok (by simpa using hk) hw
    ·intro e oe k ok lo he eZ hk dC hw aB fP
     cases k with
     | zero=>omega
     | succ k=>
      rw [eF] at hw⊢
      rw [eV]
      cases e with
      | zero=>
       simp at he;subst he
       simp only [Nat.add_zero] at fP⊢
       rw [EI]
       exact fp j h (hE eZ) k ok lo (by simpa using hk) dC hw fP
      | succ e=>
       rw [eH]
       rw [show j+(e+1)=j+1+e by omega] at fP
       exact T.P7 e oe k ok lo (by simpa using he) eZ (by simpa using hk) dC hw (by omega) fP
    ·intro k ok lo e oe hk dC hw he eZ aB fP
     cases e with
     | zero=>omega
     | succ e=>
      rw [tJ,show j+1+(e+1)=j+1+e+1 by omega]
      cases k with
      | zero=>
       simp at hk;subst hk
       simp only [Nat.add_zero] at hw fP⊢
       rw [rS] at hw⊢
       rw [vv]
       exact ff j lo f v (hL lo dC hw) e oe (by simpa using he) eZ fP
      | succ k=>
       rw [eF] at hw⊢
       rw [eV]
       rw [show j+(k+1)=j+1+k by omega] at fP
       exact T.Me k ok lo e oe (by simpa using hk) dC hw (by simpa using he) eZ (by omega) fP
    ·intro k ok a hk cI hw
     cases k with
     | zero=>
      simp at hk;subst hk
      simp only [Nat.add_zero] at hw⊢
      rw [rS] at hw
      obtain ⟨u,u1,u2⟩:=pW a cI hw
      refine ⟨u,by rw [EJ,vv,f2];exact u1,?_⟩
      intro e oe he eZ aB fP
      cases e with
      | zero=>omega
      | succ e=>
       rw [tJ,show j+1+(e+1)=j+1+e+1 by omega,vv]
       exact ff j (.obj (.const v)) f u u2 e oe (by simpa using he) eZ fP
     | succ k=>
      rw [eF] at hw
      obtain ⟨u,u1,u2⟩:=T.Yv k ok a (by simpa using hk) cI hw
      refine ⟨u,by rw [tJ,eV,show j+1+(k+1)=j+1+k+1 by omega];exact u1,?_⟩
      intro e oe he eZ aB fP
      cases e with
      | zero=>omega
      | succ e=>
       rw [tJ,show j+1+(e+1)=j+1+e+1 by omega,eV]
       rw [show j+(k+1)=j+1+k by omega] at fP
       exact u2 e oe (by simpa using he) eZ (by omega) fP
   ·intro e Hh hm k ok lo hk dC hw fP
    cases k with
    | zero=>
     simp at hk;subst hk
     simp only [Nat.add_zero] at hw⊢
     rw [rS] at hw⊢
     rw [vv]
     exact hp lo dC hw e Hh hm fP
    | succ k=>
     rw [eF] at hw⊢
     rw [eV]
     exact fp e Hh (hh _ hm) k ok lo (by simpa using hk) dC hw fP
   ·intro i lo Yr u hm e oe he eZ fP
    cases e with
    | zero=>
     simp at he;subst he
     simp only [Nat.add_zero]
     rw [EJ,f2]
     exact hf eZ i lo Yr u hm fP
    | succ e=>
     rw [tJ,show j+1+(e+1)=j+1+e+1 by omega]
     exact ff i lo Yr u (hl _ hm) e oe (by simpa using he) eZ fP
  have go:pQ o.op.guard f→gD o.op.guard f=true→jz P o.op.op o.pre j aK aG f h (fun aK aG v h'=>jD P os (j+1) aK aG K (cX f o.op.dst v) h')→Ah P (o::os) j aK aG K f h:=fun ji hw hd=>by
   have LO:o.op.op.cW=true→(∀a,o.op.op≠ .e (.fl a))→cL P o.op.op f h (fun v h'=>jK o.pre h' aG∧jD P os (j+1) (aK++[(j,h)]) aG K (cX f o.op.dst v) h')→Ah P (o::os) j aK aG K f h:=fun hE oT hs=>by
    have we:∀lo,o.op.op≠ .l lo:=by intro lo e;rw [e] at hE;cases hE
    have ex:∃v h',cL P o.op.op f h (fun u g=>u=v∧g=h')∧jK o.pre h' aG∧jD P os (j+1) (aK++[(j,h)]) aG K (cX f o.op.dst v) h':=by
     generalize o.op.op=io at hs⊢
     cases io with
     | p po=>
      simp only [cL,eK] at hs⊢
      split at hs
      ·exact ⟨_,_,⟨rfl,rfl⟩,hs⟩
      ·exact hs.elim
     | l lo=>
      simp only [cL,eK] at hs⊢
      split at hs
      ·exact ⟨_,_,⟨rfl,rfl⟩,hs⟩
      ·exact hs.elim
     | e eo=>
      simp only [cL,lh] at hs⊢
      split at hs
      ·exact ⟨_,_,⟨rfl,rfl⟩,hs⟩
      ·exact hs.elim
     | call g args=>
      obtain ⟨v,h',hc,hk⟩:=hs
      exact ⟨v,h',⟨v,h',hc,rfl,rfl⟩,hk⟩
     | jx x args=>
      simp only [cL,qO] at hs⊢
      split at hs
      ·obtain ⟨kr,v,h',hc,hk⟩:=hs
       exact ⟨v,h',⟨kr,v,h',hc,rfl,rfl⟩,hk⟩
      ·obtain ⟨kr,v,h',hc,hk⟩:=hs
       exact ⟨v,h',⟨kr,v,h',hc,rfl,rfl⟩,hk⟩
      ·exact hs.elim
    obtain ⟨v,h',s1,s2,s3⟩:=ex
    exact key v h' _ _ ji s3 (fun p hp=>by simp [hp]) (fun p hp=>hp) (fun _=>by simp) (fun lo e=>absurd e (we lo)) (fun _=>s1) (fun hf=>by rw [hw] at hf;cases hf) (fun lo e=>absurd e (we lo))
     (fun _ i lo ff u hm fP=>AA s2 i lo ff u hm fP) (fun a e=>absurd e (oT a))
   cases cI:o.op.op with
   | p po=>
    rw [cI] at hd
    simp only [jz,eK] at hd
    split at hd
    ·rename_i v hv
     exact key v h _ _ ji hd (fun p hp=>hp) (fun p hp=>hp) (fun hE=>by rw [cI] at hE;cases hE) (fun lo e=>by rw [cI] at e;cases e) (fun _=>by rw [cI];simp [cL,eK,hv]) (fun hf=>by rw [hw] at hf;cases hf)
      (fun lo e=>by rw [cI] at e;cases e) (fun hE=>by rw [cI] at hE;cases hE) (fun a e=>by rw [cI] at e;cases e)
    ·exact hd.elim
   | l lo=>
    rw [cI] at hd
    simp only [jz,eK] at hd
    split at hd
    ·rename_i v hv
     exact key v h _ _ ji hd.2 (fun p hp=>hp) (fun p hp=>by simp [hp]) (fun hE=>by rw [cI] at hE;cases hE) (fun mL e _=>by rw [cI] at e;cases e;simp) (fun _=>by rw [cI];simp [cL,eK,hv]) (fun hf=>by rw [hw] at hf;cases hf)
      (fun mL e _ e' Hh hm fP=>by rw [cI] at e;cases e;exact Lw hd.1 e' Hh hm fP) (fun hE=>by rw [cI] at hE;cases hE) (fun a e=>by rw [cI] at e;cases e)
    ·exact hd.elim
   | e eo=>
    cases eo with
    | fl a=>
     rw [cI] at hd
     simp only [jz,lh] at hd
     split at hd
     ·rename_i v h' hv
      simp only [eK] at hd
      split at hd
      ·rename_i u hu
       exact key v h' _ _ ji hd.2 (fun p hp=>by simp [hp]) (fun p hp=>by simp [hp]) (fun _=>by simp) (fun lo e=>by rw [cI] at e;cases e) (fun _=>by rw [cI];simp [cL,lh,hv]) (fun hf=>by rw [hw] at hf;cases hf)
        (fun lo e=>by rw [cI] at e;cases e) (fun _ i lo ff u hm fP=>AA hd.1 i lo ff u hm fP) (fun a' _ _=>⟨u,hu,by simp⟩)
      ·exact hd.elim
     ·exact hd.elim
    | _=>exact LO (by rw [cI];rfl) (fun a e=>by rw [cI] at e;cases e) (by rw [cI] at hd⊢;exact hd)
   | call g args=>exact LO (by rw [cI];rfl) (fun a e=>by rw [cI] at e;cases e) (by rw [cI] at hd⊢;exact hd)
   | jx x args=>exact LO (by rw [cI];rfl) (fun a e=>by rw [cI] at e;cases e) (by rw [cI] at hd⊢;exact hd)
  have skip:pQ o.op.guard f→gD o.op.guard f=false→tI o.op.op o.pre j aK aG h (fun aK aG v h'=>jD P os (j+1) aK aG K (cX f o.op.dst v) h')→Ah P (o::os) j aK aG K f h:=fun ji hw hd=>by
   unfold tI at hd
   split at hd
   ·rename_i hE
    exact key undef h _ _ ji hd (fun p hp=>hp) (fun p hp=>hp) (fun eZ=>by rw [hE] at eZ;cases eZ) (fun lo _ hf=>by rw [hw] at hf;cases hf) (fun hf=>by rw [hw] at hf;cases hf) (fun _=>⟨rfl,rfl⟩)
     (fun lo _ hf=>by rw [hw] at hf;cases hf) (fun eZ=>by rw [hE] at eZ;cases eZ) (fun a _ hf=>by rw [hw] at hf;cases hf)
   ·rename_i hE
    exact key undef h _ _ ji hd.2 (fun p hp=>by simp [hp]) (fun p hp=>hp) (fun _=>by simp) (fun lo _ hf=>by rw [hw] at hf;cases hf) (fun hf=>by rw [hw] at hf;cases hf) (fun _=>⟨rfl,rfl⟩)
     (fun lo _ hf=>by rw [hw] at hf;cases hf) (fun _ i lo ff u hm fP=>AA hd.1 i lo ff u hm fP) (fun a _ hf=>by rw [hw] at hf;cases hf)
  simp only [jD] at hi
  split at hi
  ·rename_i jj
   exact go (by rw [jj];trivial) (by rw [jj];rfl) hi
  ·rename_i s b jj
   obtain ⟨e1,e2⟩:=E1 hi
   rcases e2 with ⟨e2,e3⟩ | ⟨e2,e3⟩
   ·exact go (by rw [jj];exact e1) (by rw [jj];exact e2) e3
   ·exact skip (by rw [jj];exact e1) (by rw [jj];exact e2) e3


def qS (g:Option (Nat×Bool)) (l:List iU):List cD:=l.map fun o=>⟨⟨o.dst,o.op,g⟩,o.pre⟩

def qT:List (Option (Nat×Bool)×List iU)→List cD
 | []=>[]
 | (g,l)::gs=>qS g l++qT gs

theorem EC:∀os:List cD,qT (tH os)=os
 | []=>rfl
 | o::os=>by
  have ih:=EC os
  simp only [tH]
  cases hg:tH os with
  | nil=>
   rw [hg] at ih
   simp only [qT] at ih
   subst ih
   simp [qT,qS]
  | cons a gs=>
   obtain ⟨g,l⟩:=a
   rw [hg] at ih
   simp only
   split
   ·rename_i he
    simp only [qT,qS,List.map_cons,List.cons_append] at ih⊢
    rw [ih,←he]
   ·simp only [qT,qS,List.map_cons,List.map_nil,List.cons_append,List.nil_append] at ih⊢
    rw [ih]

theorem X4 {l:List cD} (h:l.all (fun o=>leaves o.op.guard o.op.dst)=true):∀g m,(g,m)∈tH l→∀o∈m,leaves g o.dst=true:=by
 intro g m hm o ho
 have oS:(⟨⟨o.dst,o.op,g⟩,o.pre⟩:cD)∈qT (tH l):=by
  generalize tH l=gs at hm
  induction gs with
  | nil=>simp at hm
  | cons a gs ih=>
   obtain ⟨g',m'⟩:=a
   simp only [qT,List.mem_append]
   rcases List.mem_cons.1 hm with he | hm
   ·cases he
    left
    simp only [qS,List.mem_map]
    exact ⟨o,ho,rfl⟩
   ·exact .inr (ih hm)
 rw [EC] at oS
 rw [List.all_eq_true] at h
 exact h _ oS

theorem X9 {P:Program} {io:fL} {pre j:Nat} {aK:List (Nat×ae)} {aG:dN} {f:Nat→Value} {h:ae} {K K':List (Nat×ae)→dN→Value→ae→Prop} (hm:∀a b v h,K a b v h→K' a b v h)
  (hs:jz P io pre j aK aG f h K):jz P io pre j aK aG f h K':=by
 cases io with
 | p po=>simp only [jz,eK] at hs⊢;split at hs <;> first | exact hm _ _ _ _ hs | exact hs.elim
 | l lo=>simp only [jz,eK] at hs⊢;split at hs <;> first | exact ⟨hs.1,hm _ _ _ _ hs.2⟩ | exact hs.elim
 | e eo=>
  cases eo with
  | fl a=>
   simp only [jz,lh,eK] at hs⊢
   split at hs
   ·split at hs <;> first | exact ⟨hs.1,hm _ _ _ _ hs.2⟩ | exact hs.elim
   ·exact hs.elim
  | _=>simp only [jz,lh] at hs⊢;split at hs <;> first | exact ⟨hs.1,hm _ _ _ _ hs.2⟩ | exact hs.elim
 | call g args=>exact pe.mono hs fun v h hk=>⟨hk.1,hm _ _ _ _ hk.2⟩
 | jx x args=>simp only [jz,qO] at hs⊢;split at hs <;> first | exact ⟨hs.1,hs.2.mono fun v h hk=>⟨hk.1,hm _ _ _ _ hk.2⟩⟩ | exact hs.elim

theorem X8 {io:fL} {pre j:Nat} {aK:List (Nat×ae)} {aG:dN} {h:ae} {K K':List (Nat×ae)→dN→Value→ae→Prop} (hm:∀a b v h,K a b v h→K' a b v h)
  (hs:tI io pre j aK aG h K):tI io pre j aK aG h K':=by
 unfold tI at hs⊢
 split at hs
 ·exact hm _ _ _ _ hs
 ·exact ⟨hs.1,hm _ _ _ _ hs.2⟩

theorem Q3 {f:Nat→Value} {d:Option Nat} {s:Nat} (hd:d≠some s) (v:Value):cX f d v s=f s:=by
 cases ho:d with
 | none=>rfl
 | some x=>
  have:s≠x:=by rintro rfl;exact hd ho
  simp [cX,qD,this]

theorem YB {P:Program} {g:Option (Nat×Bool)} {r:List cD} {K:(Nat→Value)→ae→Prop}:∀{l:List iU} {j:Nat} {aK:List (Nat×ae)} {aG:dN} {f:Nat→Value} {h:ae},(∀o∈l,leaves g o.dst=true)→
  (∀s b,g=some (s,b)→sH (f s)=false∧od (f s) b=true)→
  mE P l j aK aG (fun aK aG f h=>jD P r (j+l.length) aK aG K f h) f h→jD P (qS g l++r) j aK aG K f h:=by
 intro l
 induction l with
 | nil=>intro j aK aG f h _ _ hk;exact hk
 | cons o l ih=>
  intro j aK aG f h hl hg hk
  simp only [mE] at hk
  simp only [qS,List.map_cons,List.cons_append,jD]
  have step:jz P o.op o.pre j aK aG f h fun aK aG v h'=>jD P (qS g l++r) (j+1) aK aG K (cX f o.dst v) h':=by
   refine X9 (fun a b v h' b7=>?_) hk
   refine ih (fun o' c9=>hl o' (by simp [c9])) ?_ ?_
   ·intro s bb hs
    have hd:o.dst≠some s:=by have:=hl o (by simp);rw [hs] at this;simpa [leaves] using this
    rw [Q3 hd]
    exact hg s bb hs
   ·rw [List.length_cons] at b7
    rw [show j+1+l.length=j+(l.length+1) by omega]
    exact b7
  cases jj:g with
  | none=>rw [jj] at step;exact step
  | some sb=>
   obtain ⟨s,b⟩:=sb
   obtain ⟨e1,e2⟩:=hg s b jj
   rw [jj] at step
   exact Mu e1 (fun _=>step) (fun h=>by rw [e2] at h;cases h)

theorem arp {P:Program} {s:Nat} {b:Bool} {r:List cD} {K:(Nat→Value)→ae→Prop}:∀{l:List iU} {j:Nat} {aK:List (Nat×ae)} {aG:dN} {f:Nat→Value} {h:ae},(∀o∈l,leaves (some (s,b)) o.dst=true)→
  sH (f s)=false→od (f s) b=false→
  rW l j aK aG (fun aK aG f h=>jD P r (j+l.length) aK aG K f h) f h→jD P (qS (some (s,b)) l++r) j aK aG K f h:=by
 intro l
 induction l with
 | nil=>intro j aK aG f h _ _ _ hk;exact hk
 | cons o l ih=>
  intro j aK aG f h hl e1 e2 hk
  simp only [rW] at hk
  simp only [qS,List.map_cons,List.cons_append,jD]
  refine Mu e1 (fun h=>by rw [e2] at h;cases h) (fun _=>?_)
  refine X8 (fun a c v h' b7=>?_) hk
  have hd:o.dst≠some s:=by have:=hl o (by simp);simpa [leaves] using this
  refine ih (fun o' c9=>hl o' (by simp [c9])) (by rw [Q3 hd];exact e1) (by rw [Q3 hd];exact e2) ?_
  rw [List.length_cons] at b7
  rw [show j+1+l.length=j+(l.length+1) by omega]
  exact b7

theorem Mk {P:Program} {K K':List (Nat×ae)→dN→(Nat→Value)→ae→Prop} (hm:∀a b f h,K a b f h→K' a b f h):∀{l:List iU} {j:Nat} {aK:List (Nat×ae)} {aG:dN} {f:Nat→Value} {h:ae},
  mE P l j aK aG K f h→mE P l j aK aG K' f h
 | [],_,_,_,_,_,hk=>hm _ _ _ _ hk
 | _::_,_,_,_,_,_,hk=>X9 (fun _ _ _ _ b7=>Mk hm b7) hk

theorem YC {K K':List (Nat×ae)→dN→(Nat→Value)→ae→Prop} (hm:∀a b f h,K a b f h→K' a b f h):∀{l:List iU} {j:Nat} {aK:List (Nat×ae)} {aG:dN} {f:Nat→Value} {h:ae},
  rW l j aK aG K f h→rW l j aK aG K' f h
 | [],_,_,_,_,_,hk=>hm _ _ _ _ hk
 | _::_,_,_,_,_,_,hk=>X8 (fun _ _ _ _ b7=>YC hm b7) hk

theorem YA {P:Program} {K:(Nat→Value)→ae→Prop}:∀{gs:List (Option (Nat×Bool)×List iU)} {j:Nat} {aK:List (Nat×ae)} {aG:dN} {f:Nat→Value} {h:ae},(∀g l,(g,l)∈gs→∀o∈l,leaves g o.dst=true)→
  lL P gs j aK aG K f h→jD P (qT gs) j aK aG K f h:=by
 intro gs
 induction gs with
 | nil=>intro j aK aG f h _ hk;exact hk
 | cons a gs ih=>
  obtain ⟨g,l⟩:=a
  intro j aK aG f h hl hk
  have kU:∀g' l',(g',l')∈gs→∀o∈l',leaves g' o.dst=true:=fun g' l' hm=>hl g' l' (by simp [hm])
  simp only [qT]
  cases g with
  | none=>
   simp only [lL] at hk
   exact YB (hl none l (by simp)) (fun s b hs=>by cases hs) (Mk (fun a b f h b7=>ih kU b7) hk)
  | some sb=>
   obtain ⟨s,b⟩:=sb
   simp only [lL] at hk
   obtain ⟨e1,e2⟩:=E1 hk
   rcases e2 with ⟨e2,e3⟩ | ⟨e2,e3⟩
   ·exact YB (hl _ l (by simp)) (fun s' b' hs=>by cases hs;exact ⟨e1,e2⟩) (Mk (fun a b f h b7=>ih kU b7) e3)
   ·exact arp (hl _ l (by simp)) e1 e2 (YC (fun a b f h b7=>ih kU b7) e3)

end Go.Sim


namespace Go.Sim

def dG (V:Nat→Value) (S:List Nat):List cD→Nat→(Nat→Value)→(Nat→Value)
 | [],_,f=>f
 | d::ds,i,f=>dG V S ds (i+1) (if S.contains i then cX f d.op.dst (V i) else f)

theorem tL {V:Nat→Value} {S S':List Nat} {t:Nat}:∀{l:List cD} {i:Nat} {f f':Nat→Value},(∀k d,l[k]?=some d→d.op.dst=some t→(i+k∈S↔i+k∈S'))→f t=f' t→dG V S l i f t=dG V S' l i f' t
 | [],i,f,f',_,hf=>hf
 | d::ds,i,f,f',h,hf=>by
  simp only [dG]
  refine tL (fun k d' hk hd=>?_) ?_
  ·have:=h (k+1) d' (by simpa using hk) hd
   rw [show i+(k+1)=i+1+k by omega] at this
   exact this
  ·by_cases hd:d.op.dst=some t
   ·have:=h 0 d rfl hd
    simp only [Nat.add_zero] at this
    by_cases hi:i∈S
    ·simp [hi,this.1 hi,hd,cX,qD]
    ·have gL:i∉S':=fun h=>hi (this.2 h)
     simp [hi,gL,hf]
   ·have br:∀v g,cX g d.op.dst v t=g t:=by
     intro v g
     cases tS:d.op.dst with
     | none=>rfl
     | some x=>
      have:t≠x:=by rintro rfl;exact hd tS
      simp [cX,qD,this]
    split <;> split <;> simp [br,hf]

theorem Md {V:Nat→Value} {S:List Nat} {t:Nat}:∀{l:List cD} {i:Nat} {f:Nat→Value} {k:Nat} {d:cD},l[k]?=some d→d.op.dst=some t→i+k∈S→
  (∀k' d',l[k']?=some d'→d'.op.dst=some t→k<k'→i+k'∉S)→dG V S l i f t=V (i+k)
 | [],i,f,k,d,hk,_,_,_=>by simp at hk
 | d0::ds,i,f,k,d,hk,hd,hS,Fm=>by
  simp only [dG]
  cases k with
  | zero=>
   simp at hk;subst hk
   simp only [Nat.add_zero] at hS⊢
   have:dG V S ds (i+1) (if S.contains i=true then cX f d0.op.dst (V i) else f) t=dG V [] ds (i+1) (if S.contains i=true then cX f d0.op.dst (V i) else f) t:=by
    refine tL (fun k' d' b7 oP=>?_) rfl
    have:=Fm (k'+1) d' (by simpa using b7) oP (by omega)
    rw [show i+(k'+1)=i+1+k' by omega] at this
    simp [this]
   rw [this]
   have Bg:∀(l:List cD) (i:Nat) (f:Nat→Value),dG V [] l i f=f:=by
    intro l
    induction l with
    | nil=>intro i f;rfl
    | cons a l ih=>intro i f;simp [dG,ih]
   rw [Bg]
   simp [hS,hd,cX,qD]
  | succ k=>
   have:=Md (V:=V) (S:=S) (l:=ds) (i:=i+1) (f:=if S.contains i=true then cX f d0.op.dst (V i) else f) (k:=k) (d:=d) (by simpa using hk) hd (by rw [show i+1+k=i+(k+1) by omega];exact hS) (by
    intro k' d' b7 oP aB
    have:=Fm (k'+1) d' (by simpa using b7) oP (by omega)
    rw [show i+(k'+1)=i+1+k' by omega] at this
    exact this)
   rw [this]
   congr 1
   omega

theorem AQ {P:Program} {l:List cD} {F:Nat→Nat→Value} {H:Nat→ae} {V:Nat→Value} (T:Trace P l 0 F H V):∀(r:List cD) (i:Nat) (S:List Nat) (j:Nat),(∀k,r[k]?=l[i+k]?)→(∀k,k∈S↔k<j)→i≤j→j≤i+r.length→
  dG V S r i (F i)=F j
 | [],i,S,j,_,_,h1,h2=>by
  simp at h2
  obtain rfl:i=j:=by omega
  rfl
 | d::r,i,S,j,hr,hS,h1,h2=>by
  simp only [dG]
  have h0:=hr 0
  simp only [List.getElem?_cons_zero,Nat.add_zero] at h0
  have hu:=T.uD i d h0.symm
  simp only [Nat.zero_add] at hu
  by_cases dO:i<j
  ·have:i∈S:=(hS i).2 dO
   simp only [List.contains_eq_mem,this,decide_true,if_true]
   rw [←hu]
   exact AQ T r (i+1) S j (fun k=>by have:=hr (k+1);rw [show i+(k+1)=i+1+k by omega] at this;simpa using this) hS (by omega) (by simp at h2;omega)
  ·obtain rfl:i=j:=by omega
   have hni:i∉S:=fun h=>by have:=(hS i).1 h;omega
   simp only [List.contains_eq_mem,hni,decide_false,Bool.false_eq_true,if_false]
   have asy:∀(r:List cD) (k:Nat) (f:Nat→Value),i≤k→dG V S r k f=f:=by
    intro r
    induction r with
    | nil=>intro k f _;rfl
    | cons a r ih=>
     intro k f hk
     have:k∉S:=fun h=>by have:=(hS k).1 h;omega
     simp [dG,this,ih (k+1) f (by omega)]
   exact asy r (i+1) _ (by omega)

def zY (es:List (List Nat)) (S:List Nat):Prop:=∀j e,j∈S→e∈(es.getD j [])→e∈S

theorem afT {nz:List Nat}:∀{es:List Nat} {i:Nat},(sS nz es).testBit i=true→∃e∈es,i=e∨(nz.getD e 0).testBit i=true
 | [],i,h=>by simp [sS] at h
 | e::es,i,h=>by
  simp only [sS,Nat.testBit_or,Bool.or_eq_true] at h
  rcases h with (h | h) | h
  ·refine ⟨e,by simp,.inl ?_⟩
   rw [Nat.testBit_two_pow] at h
   exact (by simpa using h:e=i).symm
  ·exact ⟨e,by simp,.inr h⟩
  ·obtain ⟨e',h1,h2⟩:=afT h
   exact ⟨e',by simp [h1],h2⟩

theorem apw:∀{es:List (List Nat)} {acc:List Nat} {all:List (List Nat)},(∀k,es[k]?=all[acc.length+k]?)→(∀j i,j<acc.length→(acc.getD j 0).testBit i=true→∃e∈all.getD j [],i=e∨((ik es acc).getD e 0).testBit i=true)→
  (∀j i,((ik es acc).getD j 0).testBit i=true→∃e∈all.getD j [],i=e∨((ik es acc).getD e 0).testBit i=true):=by
 intro es
 induction es with
 | nil=>
  intro acc all _ AZ j i h
  simp only [ik] at h⊢AZ
  by_cases hj:j<acc.length
  ·exact AZ j i hj h
  ·have:acc.getD j 0=0:=by simp [List.getD,Nat.le_of_not_lt hj]
   rw [this] at h
   simp at h
 | cons e0 es ih=>
  intro acc all eQ AZ j i h
  simp only [ik] at h⊢AZ
  have dI:∀(es:List (List Nat)) (acc:List Nat) (k:Nat),k<acc.length→(ik es acc).getD k 0=acc.getD k 0:=by
   intro es
   induction es with
   | nil=>intro acc k _;rfl
   | cons a es ih'=>
    intro acc k hk
    simp only [ik]
    rw [ih' _ k (by simp;omega)]
    simp [List.getD,List.getElem?_append_left hk]
  refine ih (acc:=acc++[sS acc e0]) (all:=all) ?_ ?_ j i h
  ·intro k
   have:=eQ (k+1)
   simp only [List.getElem?_cons_succ] at this
   rw [this]
   congr 1
   simp
   omega
  ·intro j' i' vZ hb
   by_cases aB:j'<acc.length
   ·rw [show (acc++[sS acc e0]).getD j' 0=acc.getD j' 0 by simp [List.getD,List.getElem?_append_left aB]] at hb
    exact AZ j' i' aB hb
   ·obtain rfl:j'=acc.length:=by simp at vZ;omega
    rw [show (acc++[sS acc e0]).getD acc.length 0=sS acc e0 by simp [List.getD]] at hb
    obtain ⟨e,h1,h2⟩:=afT hb
    have h0:=eQ 0
    simp only [List.getElem?_cons_zero,Nat.add_zero] at h0
    refine ⟨e,by simp [List.getD,←h0,h1],?_⟩
    rcases h2 with h2 | h2
    ·exact .inl h2
    ·right
     have arL:e<acc.length:=by
      apply Classical.byContradiction
      intro cH
      have:acc.getD e 0=0:=by simp [List.getD,Nat.le_of_not_lt cH]
      rw [this] at h2
      simp at h2
     rw [dI _ _ _ (by simp;omega)]
     simpa [List.getD,List.getElem?_append_left arL] using h2

theorem GW {es:List (List Nat)} {S:List Nat} (hS:zY es S) (vK:∀j e,e∈es.getD j []→e<j):∀(j i:Nat),(∀e∈es.getD j [],e∈S)→((ik es []).getD j 0).testBit i=true→i∈S:=by
 intro j
 induction j using Nat.strongRecOn with
 | _ j ih=>
  intro i he hb
  obtain ⟨e,h1,h2⟩:=apw (es:=es) (acc:=[]) (all:=es) (fun k=>by simp) (fun j i hj=>by simp at hj) j i hb
  rcases h2 with rfl | h2
  ·exact he _ h1
  ·exact ih e (vK j e h1) i (fun e' fc=>hS e e' (he e h1) fc) h2

end Go.Sim


namespace Go.Sim

section
variable {P : Program} {N : Nat}

theorem Iq {l:List cD} {F:Nat→Nat→Value} {H:Nat→ae} {V:Nat→Value} (T:Trace P l 0 F H V) {i:Nat}:∀(d:Nat),i+d≤l.length→(∀e oe,l[e]?=some oe→oe.op.op.cW=true→¬(i≤e∧e<i+d))→H (i+d)=H i
 | 0,_,_=>rfl
 | d+1,hl,hE=>by
  have ih:=Iq T d (by omega) (fun e oe h1 h2 h3=>hE e oe h1 h2 ⟨h3.1,by omega⟩)
  have aB:i+d<l.length:=by omega
  have bP:l[i+d]?=some l[i+d]:=List.getElem?_eq_getElem aB
  have Fs:l[i+d].op.op.cW=false:=by
   cases hq:l[i+d].op.op.cW with
   | false=>rfl
   | true=>exact absurd ⟨by omega,by omega⟩ (hE (i+d) _ bP hq)
  rw [show i+(d+1)=i+d+1 by omega]
  rw [←ih]
  have hy:=T.yes (i+d) _ bP
  have hn:=T.no (i+d) _ bP
  simp only [Nat.zero_add] at hy hn
  cases hw:gD l[i+d].op.guard (F (i+d)) with
  | false=>exact (hn hw).2
  | true=>
   have hs:=hy hw
   generalize l[i+d].op.op=io at hs Fs
   cases io with
   | p po=>
    simp only [cL,eK] at hs
    split at hs
    ·exact hs.2.symm
    ·exact hs.elim
   | l lo=>
    simp only [cL,eK] at hs
    split at hs
    ·exact hs.2.symm
    ·exact hs.elim
   | e eo=>cases Fs
   | call g args=>cases Fs
   | jx x args=>cases Fs

theorem oC {l:List cD} {F:Nat→Nat→Value} {H:Nat→ae} {V:Nat→Value} (T:Trace P l 0 F H V) {i k:Nat} (Fi:i≤k) (hk:k≤l.length) (hE:∀e oe,l[e]?=some oe→oe.op.op.cW=true→¬(i≤e∧e<k)):H k=H i:=by
 have:=Iq T (i:=i) (k-i) (by omega) (fun e oe h1 h2 h3=>hE e oe h1 h2 ⟨h3.1,by omega⟩)
 rw [show i+(k-i)=k by omega] at this
 exact this

def Jc (l:List cD) (S:List Nat) (m:Nat):Prop:=∀e oe,l[e]?=some oe→oe.op.op.cW=true→(e∈S↔e<m)

theorem B5 {l:List cD} (h:GN l=true) {i j:Nat} {oi oj:cD} (hi:l[i]?=some oi) (hj:l[j]?=some oj):zp oj j oi i=true:=by
 unfold GN at h
 rw [List.all_eq_true] at h
 have h1:=h (oj,j) (List.mem_zipIdx_iff_getElem?.2 hj)
 simp only at h1
 rw [List.all_eq_true] at h1
 exact h1 (oi,i) (List.mem_zipIdx_iff_getElem?.2 hi)

theorem afM {oi oj:cD} {i j t:Nat} (h:zp oj j oi i=true) (br:i≠j) (hd:oi.op.dst=some t) (ht:rF oj t=true):(if i<j then oj.pre.testBit i else oi.pre.testBit j)=true:=by
 unfold zp at h
 rw [hd] at h
 simp only [Bool.and_eq_true,Bool.or_eq_true,beq_iff_eq,ht,Bool.not_true,Bool.false_eq_true,false_or] at h
 rcases h.1 with h | h
 ·exact absurd h br
 ·exact h

theorem P5 {oi oj:cD} {i j:Nat} (h:zp oj j oi i=true) (aB:i<j) (hi:oi.op.op.cW=true) (hj:oj.op.op.cW=true):oj.pre.testBit i=true:=by
 unfold zp at h
 simp only [Bool.and_eq_true,aB,decide_true,hi,hj,Bool.and_self,Bool.not_true,Bool.false_or] at h
 exact h.2

theorem ap1 {ops:Array Oper} {l:List cD} {F:Nat→Nat→Value} {H:Nat→ae} {V:Nat→Value} (T:Trace P l 0 F H V) (hlen:l.length=ops.size)
  (arJ:∀(k:Nat) (o:Oper) (d:cD),ops[k]?=some o→l[k]?=some d→vk P N ops o=some d.op)
  (fP:∀k d,l[k]?=some d→d.pre=(ik (ops.toList.map eD) []).getD k 0)
  (vK:∀j e,e∈(ops.toList.map eD).getD j []→e<j) (tX:GN l=true) {S r:List Nat} (hv:Valid ops S r):
  zY (ops.toList.map eD) S→(∀i∈S,i<ops.size)→∀m,m≤l.length→Jc l S m→∀S' B ρ a w,Rel P N B ρ (dG V S l 0 (F 0)) (H m) a w→∀Q:Exit→Act→World→Prop,
   (∀ar a' w',Rel P N B ar (F l.length) (H l.length) a' w'→Tr ρ (H m) w ar (H l.length) w'→Q .normal a' w')→wpOpsIn (FR S') 0 P ops Q r a w:=by
 induction hv with
 | nil eQ=>
  rename_i S
  intro fa aB m hm dD S' B ρ a w R Q hq
  have hF:dG V S l 0 (F 0)=F l.length:=by
   have h1:=AQ T l 0 (List.range l.length) l.length (fun k=>by simp) (fun k=>by simp) (by omega) (by omega)
   rw [←h1]
   funext t
   refine tL (fun k d hk _=>?_) rfl
   have fO:=(List.getElem?_eq_some_iff.1 hk).1
   simp only [Nat.zero_add,List.mem_range]
   exact ⟨fun _=>fO,fun _=>eQ k (by omega)⟩
  have hH:H l.length=H m:=by
   refine oC T hm (Nat.le_refl _) ?_
   rintro e oe he hE ⟨h1,h2⟩
   have:=(dD e oe he hE).1 (eQ e (by omega))
   omega
  rw [hF] at R
  simp only [wpOpsIn]
  refine hq ρ a w (by rw [hH];exact R) ?_
  rw [hH]
  exact Tr.refl R.heap
 | cons sv su vV hvr ih=>
  rename_i S j o r
  intro fa aB m hm dD S' B ρ a w R Q hq
  have sg:j<ops.size:=(Array.getElem?_eq_some_iff.1 sv).1
  have bP:l[j]?=some (l[j]'(by omega)):=List.getElem?_eq_getElem _
  generalize hd0:l[j]'(by omega)=d at bP
  have hc:=arJ j o d sv bP
  obtain ⟨q1,q2,q3,q4,q5⟩:=AB hc
  have iX:(ops.toList.map eD).getD j []=eD o:=by
   simp [List.getD,sv]
  have q9:zY (ops.toList.map eD) (j::S):=by
   intro k e hk he
   rcases List.mem_cons.1 hk with rfl | hk
   ·rw [iX] at he
    exact List.mem_cons_of_mem _ (vV e he)
   ·exact List.mem_cons_of_mem _ (fa k e hk he)
  have before:∀i,d.pre.testBit i=true→i∈S:=by
   intro i hb
   rw [fP j d bP] at hb
   exact GW fa vK j i (by rw [iX];exact vV) hb
  have behind:∀k dk,l[k]?=some dk→dk.pre.testBit j=true→k∉S:=by
   intro k dk hk hb Ba
   rw [fP k dk hk] at hb
   exact su (GW fa vK k j (fun e he=>fa k e Ba he) hb)
  have slot:∀t,rF d t=true→dG V S l 0 (F 0) t=F j t:=by
   intro t ht
   have h1:=AQ T l 0 (List.range j) j (fun k=>by simp) (fun k=>by simp) (by omega) (by omega)
   rw [←h1]
   refine tL (fun k dk hk vT=>?_) rfl
   simp only [Nat.zero_add,List.mem_range]
   by_cases oQ:k=j
   ·subst oQ
    exact ⟨fun h=>absurd h su,fun h=>absurd h (Nat.lt_irrefl _)⟩
   ·have hp:=afM (B5 tX hk bP) oQ vT ht
    by_cases kA:k<j
    ·rw [if_pos kA] at hp
     exact ⟨fun _=>kA,fun _=>before k hp⟩
    ·rw [if_neg kA] at hp
     exact ⟨fun h=>absurd h (behind k dk hk hp),fun h=>absurd h kA⟩
  have wu:∀t∈d.op.reads,dG V S l 0 (F 0) t=F j t:=fun t ht=>slot t (by simp [rF,ht])
  have yE:∀t∈tmpsOf d.op.op.fR,dG V S l 0 (F 0) t=F j t:=fun t ht=>wu t (by simp [gI.reads,ht])
  have Bu:gD d.op.guard (dG V S l 0 (F 0))=gD d.op.guard (F j):=by
   cases hg:d.op.guard with
   | none=>rfl
   | some sb=>
    obtain ⟨s,b⟩:=sb
    simp only [gD]
    rw [wu s (by simp [gI.reads,hg])]
  have MR:pQ d.op.guard (dG V S l 0 (F 0)):=by
   have:=T.Mq j d bP
   simp only [Nat.zero_add] at this
   cases hg:d.op.guard with
   | none=>trivial
   | some sb=>
    obtain ⟨s,b⟩:=sb
    rw [hg] at this
    simp only [pQ] at this⊢
    rw [wu s (by simp [gI.reads,hg])]
    exact this
  have Bv:=Cn q4 R MR
  have iL:dG V (j::S) l 0 (F 0)=cX (dG V S l 0 (F 0)) o.dst (V j):=by
   rw [←q5]
   funext t
   by_cases j8:d.op.dst=some t
   ·have h1:=Md (V:=V) (S:=j::S) (l:=l) (i:=0) (f:=F 0) (k:=j) (d:=d) bP j8 (by simp) (by
     intro k' d' b7 oP kA
     have hp:=afM (B5 tX b7 bP) (by omega) oP (by simp [rF,j8])
     rw [if_neg (by omega)] at hp
     have:=behind k' d' b7 hp
     simp only [Nat.zero_add,List.mem_cons,not_or]
     exact ⟨by omega,this⟩)
    rw [h1]
    simp [j8,cX,qD]
   ·have h1:dG V (j::S) l 0 (F 0) t=dG V S l 0 (F 0) t:=by
     refine tL (fun k dk hk vT=>?_) rfl
     have oQ:k≠j:=by
      rintro rfl
      rw [bP] at hk
      cases hk
      exact j8 vT
     simp [oQ]
    rw [h1]
    cases tS:d.op.dst with
    | none=>rfl
    | some x=>
     have:t≠x:=by rintro rfl;exact j8 tS
     simp [cX,qD,this]
  have ka:∀i∈j::S,i<ops.size:=by
   intro i hi
   rcases List.mem_cons.1 hi with rfl | hi
   ·exact sg
   ·exact aB i hi
  -- fS Cg,where fS operation writes memory
  have Ch:d.op.op.cW=true→H m=H j∧Jc l (j::S) (j+1):=by
   intro hE
   have nS:m≤j:=by
    apply Classical.byContradiction
    intro h
    exact su ((dD j d bP hE).2 (by omega))
   refine ⟨?_,?_⟩
   ·refine (oC T nS (by omega) ?_).symm
    rintro e oe he j7 ⟨h1,h2⟩
    have hb:=P5 (B5 tX he bP) h2 j7 hE
    have:=(dD e oe he j7).1 (before e hb)
    omega
   ·intro e oe he j7
    rcases Nat.lt_trichotomy e j with kA | rfl | pX
    ·have hb:=P5 (B5 tX he bP) kA j7 hE
     exact ⟨fun _=>by omega,fun _=>List.mem_cons_of_mem _ (before e hb)⟩
    ·exact ⟨fun _=>by omega,fun _=>by simp⟩
    ·have hb:=P5 (B5 tX bP he) pX hE j7
     have:=behind e oe he hb
     constructor
     ·intro h
      rcases List.mem_cons.1 h with h | h
      ·omega
      ·exact absurd h this
     ·intro h;omega
  have zF:d.op.op.cW=false→Jc l (j::S) m:=by
   intro hE e oe he j7
   have br:e≠j:=by
    rintro rfl
    rw [bP] at he
    cases he
    rw [hE] at j7
    cases j7
   rw [←dD e oe he j7]
   simp [br]
  have Bx:=T.yes j d bP
  have cU:=T.no j d bP
  simp only [Nat.zero_add] at Bx cU
  simp only [wpOpsIn,sv]
  by_cases hw:gD d.op.guard (F j)=true
  ·rw [if_pos (by rw [Bv,Bu,hw])]
   have hs:=Bx hw
   by_cases hE:d.op.op.cW=true
   ·obtain ⟨e1,e2⟩:=Ch hE
    rw [←Hx yE,←e1] at hs
    obtain ⟨v,h',st,hv,hh⟩:=w7 (N:=N) q3 q1 hs
    subst hv
    subst hh
    refine st S' B ρ a w R _ _ ?_
    intro ar v' w' sE HH TT
    have R':=R.ry q2 TT sE HH
    rw [←iL] at R'
    exact ih q9 ka (j+1) (by omega) e2 S' B ar _ w' R' Q fun kj pG iQ mw qM=>hq kj pG iQ mw (TT.trans qM)
   ·have eZ:d.op.op.cW=false:=by simpa using hE
    -- pz is looked at has one value at this Cg and in fS aAW order
    have df:cL P d.op.op (dG V S l 0 (F 0)) (H m) fun v h'=>v=V j∧h'=H m:=by
     rw [Hx yE]
     cases cI:d.op.op with
     | p po=>
      rw [cI] at hs
      simp only [cL,eK] at hs⊢
      split at hs
      ·exact ⟨hs.1,trivial⟩
      ·exact hs.elim
     | l lo=>
      have bQ:eJ lo (ev (F j)) (H m)=some (V j):=by
       have yK:eJ lo (ev (F j)) (H j)=some (V j):=by
        rw [cI] at hs
        simp only [cL,eK] at hs
        split at hs
        ·rename_i v hv
         rw [hv,hs.1]
        ·exact hs.elim
       rcases Nat.le_total m j with nS | nS
       ·by_cases hex:∃e oe,l[e]?=some oe∧oe.op.op.cW=true∧m≤e∧e<j
        ·-- fS least of azB
         have key:∀n,(∃e oe,l[e]?=some oe∧oe.op.op.cW=true∧m≤e∧e<j∧e<n)→∃e oe,l[e]?=some oe∧oe.op.op.cW=true∧m≤e∧e<j∧∀e' gX,l[e']?=some gX→gX.op.op.cW=true→¬(m≤e'∧e'<e):=by
          intro n
          induction n with
          | zero=>rintro ⟨e,oe,_,_,_,_,h⟩;omega
          | succ n qi=>
           rintro ⟨e,oe,h1,h2,h3,h4,h5⟩
           by_cases dC:∃e oe,l[e]?=some oe∧oe.op.op.cW=true∧m≤e∧e<j∧e<n
           ·exact qi dC
           ·refine ⟨e,oe,h1,h2,h3,h4,?_⟩
            rintro e' gX k1 k2 ⟨k3,k4⟩
            exact dC ⟨e',gX,k1,k2,k3,by omega,by omega⟩
         obtain ⟨e0,w6,g1,g2,g3,g4⟩:=hex
         obtain ⟨e,oe,h1,h2,h3,h4,h5⟩:=key j ⟨e0,w6,g1,g2,g3,g4,g4⟩
         have vH:H e=H m:=oC T h3 (by omega) (fun e' gX k1 k2 k3=>h5 e' gX k1 k2 k3)
         rw [←vH]
         have sr:d.pre.testBit e=false:=by
          cases hb:d.pre.testBit e with
          | false=>rfl
          | true=>
           have:=(dD e oe h1 h2).1 (before e hb)
           omega
         have:=T.P7 e oe j d lo h1 h2 bP cI (by simpa using hw) h4 (by simpa using sr)
         simpa using this
        ·have vI:H j=H m:=oC T nS (by omega) (fun e oe h1 h2 h3=>hex ⟨e,oe,h1,h2,h3⟩)
         rw [←vI]
         exact yK
       ·by_cases hex:∃e oe,l[e]?=some oe∧oe.op.op.cW=true∧j≤e∧e<m
        ·have key:∀n,(∃e oe,l[e]?=some oe∧oe.op.op.cW=true∧j≤e∧e<m∧m≤e+n)→∃e oe,l[e]?=some oe∧oe.op.op.cW=true∧j≤e∧e<m∧∀e' gX,l[e']?=some gX→gX.op.op.cW=true→¬(e+1≤e'∧e'<m):=by
          intro n
          induction n with
          | zero=>rintro ⟨e,oe,_,_,_,_,h⟩;omega
          | succ n qi=>
           rintro ⟨e,oe,h1,h2,h3,h4,h5⟩
           by_cases dC:∃e oe,l[e]?=some oe∧oe.op.op.cW=true∧j≤e∧e<m∧m≤e+n
           ·exact qi dC
           ·refine ⟨e,oe,h1,h2,h3,h4,?_⟩
            rintro e' gX k1 k2 ⟨k3,k4⟩
            exact dC ⟨e',gX,k1,k2,by omega,by omega,by omega⟩
         obtain ⟨e0,w6,g1,g2,g3,g4⟩:=hex
         obtain ⟨e,oe,h1,h2,h3,h4,h5⟩:=key m ⟨e0,w6,g1,g2,g3,g4,by omega⟩
         have br:e≠j:=by
          rintro rfl
          rw [bP] at h1
          cases h1
          rw [eZ] at h2
          cases h2
         have vH:H m=H (e+1):=oC T (by omega) hm (fun e' gX k1 k2 k3=>h5 e' gX k1 k2 k3)
         rw [vH]
         have sr:oe.pre.testBit j=false:=by
          cases hb:oe.pre.testBit j with
          | false=>rfl
          | true=>exact absurd ((dD e oe h1 h2).2 h4) (behind e oe h1 hb)
         have:=T.Me j d lo e oe bP cI (by simpa using hw) h1 h2 (by omega) (by simpa using sr)
         simpa using this
        ·have vI:H m=H j:=oC T nS hm (fun e oe h1 h2 h3=>hex ⟨e,oe,h1,h2,h3⟩)
         rw [vI]
         exact yK
      simp [cL,eK,bQ]
     | e eo=>rw [cI] at eZ;cases eZ
     | call g args=>rw [cI] at eZ;cases eZ
     | jx x args=>rw [cI] at eZ;cases eZ
    obtain ⟨v,h',st,hv,hh⟩:=w7 (N:=N) q3 q1 df
    subst hv
    subst hh
    refine st S' B ρ a w R _ _ ?_
    intro ar v' w' sE HH TT
    have R':=R.ry q2 TT sE HH
    rw [←iL] at R'
    exact ih q9 ka m hm (zF eZ) S' B ar _ w' R' Q fun kj pG iQ mw qM=>hq kj pG iQ mw (TT.trans qM)
  ·have ke:gD d.op.guard (F j)=false:=by simpa using hw
   rw [if_neg (by rw [Bv,Bu,ke];simp)]
   obtain ⟨n1,n2⟩:=cU ke
   have R':=R.ry q2 (Tr.refl R.heap) (av.undef _) R.heap
   rw [n1] at iL
   rw [←iL] at R'
   by_cases hE:d.op.op.cW=true
   ·obtain ⟨e1,e2⟩:=Ch hE
    have e3:H (j+1)=H m:=by rw [n2,e1]
    exact ⟨fun _ _=>trivial,ih q9 ka (j+1) (by omega) e2 S' B ρ _ w (by rw [e3];exact R') Q fun kj pG iQ mw qM=>hq kj pG iQ mw (by rw [e3] at qM;exact qM)⟩
   ·exact ⟨fun _ _=>trivial,ih q9 ka m hm (zF (by simpa using hE)) S' B ρ _ w R' Q hq⟩

theorem Rj:∀{ios:List gI} {ps:List Nat},ios.length≤ps.length→(mi ios ps).length=ios.length∧∀(k:Nat) (d:cD),(mi ios ps)[k]?=some d→ios[k]?=some d.op∧d.pre=ps.getD k 0
 | [],ps,_=>⟨by simp [mi],fun k d h=>by simp [mi] at h⟩
 | o::ios,[],h=>by simp at h
 | o::ios,p::ps,h=>by
  obtain ⟨h1,h2⟩:=Rj (ios:=ios) (ps:=ps) (by simpa using h)
  refine ⟨by simp [mi,h1],?_⟩
  intro k d hk
  cases k with
  | zero=>simp [mi] at hk;subst hk;simp
  | succ k=>
   simp only [mi,List.getElem?_cons_succ] at hk
   obtain ⟨a,b⟩:=h2 k d hk
   exact ⟨by simpa using a,by simpa [List.getD] using b⟩

theorem Es:∀(es:List (List Nat)) (acc:List Nat),(ik es acc).length=acc.length+es.length
 | [],acc=>by simp [ik]
 | e::es,acc=>by simp only [ik];rw [Es];simp;omega

theorem LA {ops:Array Oper}:∀{os:List Oper} {l:List gI},jL P N ops os=some l→l.length=os.length∧∀(k:Nat) (o:Oper) (x:gI),os[k]?=some o→l[k]?=some x→vk P N ops o=some x
 | [],l,h=>by
  simp [jL] at h
  subst h
  exact ⟨rfl,fun k o x hk=>by simp at hk⟩
 | o::os,l,h=>by
  obtain ⟨x,xs,h1,h2,rfl⟩:=rP h
  obtain ⟨e1,e2⟩:=LA h2
  refine ⟨by simp [e1],?_⟩
  intro k o' x' hk hx
  cases k with
  | zero=>simp at hk hx;subst hk;subst hx;exact h1
  | succ k=>exact e2 k o' x' (by simpa using hk) (by simpa using hx)

theorem asT {out:Bool} {id:Nat} {ops:Array Oper} {l:List cD} {K:(Nat→Value)→ae→Prop} {f:Nat→Value} {h:ae} (hc:Lx P N ops=some l) (hi:jD P l 0 [] [] K f h):
  ∃f' h',fE P N out (.region id ops true) f h .normal f' h'∧K f' h':=by
 unfold Lx at hc
 split at hc
 ·rename_i ios MV
  split at hc
  ·rename_i pU
   simp at hc
   simp only [Bool.and_eq_true] at pU
   obtain ⟨⟨Be,pS⟩,tX⟩:=pU
   rw [hc] at tX
   obtain ⟨g1,g2⟩:=LA MV
   have M0:ios.length≤(ik (ops.toList.map eD) []).length:=by rw [Es];simp [g1]
   obtain ⟨z1,z2⟩:=Rj M0
   rw [hc] at z1 z2
   have hlen:l.length=ops.size:=by rw [z1,g1];simp
   obtain ⟨F,H,V,f1,f2,f3,T,_,_⟩:=NN hi
   simp only [Nat.zero_add] at f3
   refine ⟨F l.length,H l.length,?_,f3⟩
   ·intro S hS B ρ a w R
    refine wpIn_region_draw ?_
    intro t
    have Np:Region.schedule (P.follows .mixedOrders) ops t=Region.linearise .any ops t:=by
     unfold Region.schedule
     rw [Be]
     simp
    rw [Np]
    have bQ:=aaN pS t
    have vK:∀j e,e∈(ops.toList.map eD).getD j []→e<j:=by
     intro j e he
     by_cases hj:j<ops.size
     ·have hg:ops.toList[j]?=some ops[j]:=by simp [hj]
      have:(ops.toList.map eD).getD j []=eD ops[j]:=by simp [List.getD,hj]
      rw [this] at he
      have:=Dc pS j ops[j] hg e he
      omega
     ·have:(ops.toList.map eD).getD j []=[]:=by simp [List.getD,Nat.le_of_not_lt hj]
      rw [this] at he
      simp at he
    have Bg:∀(l:List cD) (i:Nat) (f:Nat→Value),dG V [] l i f=f:=by
     intro l
     induction l with
     | nil=>intro i f;rfl
     | cons a l ih=>intro i f;simp [dG,ih]
    have R1:Rel P N B ρ (dG V [] l 0 (F 0)) (H 0) a { w with drawn:=w.drawn+1 }:=by
     rw [Bg,f1,f2]
     exact R.mono (Tr.drew R.heap _) (R.heap.drew _)
    refine ap1 T hlen ?_ ?_ vK tX bQ (fun j e hj=>by simp at hj) (fun i hi=>by simp at hi) 0 (by omega) (fun e oe _ _=>by simp) S B ρ a _ R1 _ ?_
    ·intro k o d hk hd
     exact g2 k o d.op (by simpa using hk) (z2 k d hd).1
    ·intro k d hd
     exact (z2 k d hd).2
    ·intro ar a' w' R' T'
     refine ⟨rfl,ar,R',?_⟩
     have T0:=Tr.drew R.heap (w.drawn+1)
     rw [f2] at T'
     exact T0.trans T'
  ·cases hc
 ·cases hc

end
end Go.Sim


namespace Go.Sim

section
variable {P : Program} {w : World} {ρ : aI} {h : ae}

theorem aU.alloc (H:aU P ρ h w) (b:Obj):aU P ρ h (w.alloc b)∧Tr ρ h w ρ h (w.alloc b):=by
 have nb:=iI.alloc w b
 refine ⟨⟨?_,H.inj,H.aV⟩,?_⟩
 ·intro i r hi
  obtain ⟨o,ho,hr⟩:=H.obj i r hi
  refine ⟨o,ho,?_⟩
  by_cases hd:o=.dead
  ·subst hd;trivial
  ·exact hr.mono (.refl _) (nb.old (zh H hi ⟨o,ho,hd⟩))
 ·exact {
   ext:=.refl _
   len:=Nat.le_refl _
   il:=fun i r hi=>H.lt hi
   kinds:=fun i _ hm=>hm
   fresh:=fun i s h1 h2=>by rw [h1] at h2;cases h2
   gE:=by rw [nb.size];omega
   fT:=fun k hk _=>nb.old hk
   os:=nb.os
   tape:=nb.tape
   output:=nb.output }

theorem xc {l k:Nat} {o:Obj} (hk:k≠l):(w.putObj l o).heap[k]?=w.heap[k]?:=World.putObj_heap_other hk

theorem aU.put (H:aU P ρ h w) {l:Nat} (cU:∀j s,ρ j=some s→s.bm=l→¬isLive h j) (o:Obj):aU P ρ h (w.putObj l o):=by
 refine ⟨?_,H.inj,H.aV⟩
 intro i r hi
 obtain ⟨o',ho,hr⟩:=H.obj i r hi
 refine ⟨o',ho,?_⟩
 by_cases hd:o'=.dead
 ·subst hd;trivial
 ·refine hr.mono (.refl _) (xc ?_)
  intro e
  exact cU i r hi e ⟨o',ho,hd⟩

theorem aU.aav (H:aU P ρ h w) {l:Nat} {rec:Loop} (hl:w.heap[l]?=some (.loop rec)) {j:Nat} {s:RI} (hj:ρ j=some s) (hs:s.bm=l) (hv:isLive h j):∃c ls vs,h[j]?=some (.loop c ls vs):=by
 obtain ⟨o,ho,br⟩:=hv
 obtain ⟨o',c9,hr⟩:=H.obj j s hj
 rw [ho] at c9
 cases c9
 subst hs
 cases o with
 | ro e xs=>obtain ⟨_,c,_,fr,h2,_⟩:=hr;rw [hl] at h2;cases h2
 | arr e xs=>obtain ⟨_,_,c,h2,_⟩:=hr;rw [hl] at h2;cases h2
 | smap es=>obtain ⟨aH,clock,h1,_⟩:=hr;rw [hl] at h1;cases h1
 | jm kd es=>obtain ⟨aH,clock,h1,_⟩:=hr;rw [hl] at h1;cases h1
 | dH g c es=>obtain ⟨_,aH,h1,_⟩:=hr;rw [hl] at h1;cases h1
 | iter m s n l=>obtain ⟨_,rm,_,h1⟩:=hr;rw [hl] at h1;cases h1
 | loop c ls vs=>exact ⟨c,ls,vs,ho⟩
 | dead=>exact absurd rfl br

theorem Tr.late {ar:aI} {h':ae} {w':World} (T:Tr ρ h w ar h' w') {l:Nat} (hl:w.heap.size≤l) (o:Obj) (i:Nat):Tr ρ h w ar (h'.set i .dead) (w'.putObj l o) where
 ext:=T.ext
 len:=by simpa using T.len
 il:=T.il
 kinds:=by
  intro j hj hm
  refine T.kinds j hj ?_
  by_cases e:j=i
  ·subst e
   have aB:j<h'.length:=Nat.lt_of_lt_of_le hj T.len
   unfold ca at hm
   rw [List.getElem?_set_self aB] at hm
   rcases hm with ⟨_,_,h1⟩ | ⟨_,h1⟩ | ⟨_,_,_,h1⟩ | ⟨_,_,h1⟩ | ⟨_,_,_,h1⟩ | ⟨_,_,_,_,h1⟩ <;> cases h1
  ·unfold ca at hm⊢
   rw [List.getElem?_set_ne (Ne.symm e)] at hm
   exact hm
 fresh:=T.fresh
 gE:=by rw [World.putObj_size];exact T.gE
 fT:=fun k hk cU=>by rw [xc (by omega)];exact T.fT k hk cU
 os:=T.os
 tape:=T.tape
 output:=T.output

theorem aU.kill (H:aU P ρ h w) (i:Nat):aU P ρ (h.set i .dead) w:=by
 have hm:∀j,ca (h.set i .dead) j→ca h j:=by
  intro j hj
  by_cases e:j=i
  ·subst e
   unfold ca at hj
   by_cases aB:j<h.length
   ·rw [List.getElem?_set_self aB] at hj
    rcases hj with ⟨_,_,h1⟩ | ⟨_,h1⟩ | ⟨_,_,_,h1⟩ | ⟨_,_,h1⟩ | ⟨_,_,_,h1⟩ | ⟨_,_,_,_,h1⟩ <;> cases h1
   ·rw [List.getElem?_eq_none (by simpa using Nat.le_of_not_lt aB)] at hj
    rcases hj with ⟨_,_,h1⟩ | ⟨_,h1⟩ | ⟨_,_,_,h1⟩ | ⟨_,_,h1⟩ | ⟨_,_,_,h1⟩ | ⟨_,_,_,_,h1⟩ <;> cases h1
  ·unfold ca at hj⊢
   rw [List.getElem?_set_ne (Ne.symm e)] at hj
   exact hj
 have hl:∀j,isLive (h.set i .dead) j→isLive h j:=by
  intro j hj
  by_cases e:j=i
  ·subst e
   obtain ⟨o,ho,br⟩:=hj
   by_cases aB:j<h.length
   ·rw [List.getElem?_set_self aB] at ho
    cases ho
    exact absurd rfl br
   ·rw [List.getElem?_eq_none (by simpa using Nat.le_of_not_lt aB)] at ho
    cases ho
  ·unfold isLive at hj⊢
   rw [List.getElem?_set_ne (Ne.symm e)] at hj
   exact hj
 refine ⟨?_,fun a b r s ha hb kC h1 h2=>H.inj a b r s ha hb kC (hm a h1) (hl b h2),H.aV⟩
 intro j r hj
 by_cases e:j=i
 ·subst e
  exact ⟨.dead,by rw [List.getElem?_set_self (H.lt hj)],trivial⟩
 ·obtain ⟨o,ho,hr⟩:=H.obj j r hj
  exact ⟨o,by rw [List.getElem?_set_ne (Ne.symm e)];exact ho,hr⟩

theorem ayW {g:FuncId} {first cap:Array Value} (kr:pI P g=true) (a:Act) (gx:Operand) (hy:a.eval gx=.func (.func g) first cap) (l:Nat) (w:World):
  ∃d,(resolve a.eval (rangeCall gx l) 0).run P w=.ok d w∧(invoke d.target d.args).run P w=.ok (.enter g (first++#[.func (.yield l) #[] #[]]++cap)) w:=by
 refine ⟨_,by simp [resolve,hy,Deferred.ofValue];rfl,?_⟩
 simp [invoke,Ls kr,Act.eval]

theorem agX {N:Nat} {g:Operand} {ps:Array Tmp} {iW body:Code} {ls:List Nat} {K:ae→Prop} {f:Nat→Value} (aA:hY g=true)
  (hi:rA P (ev f g) ls (ls.map f) ⟨N,ps,iW,body⟩ h K):∃h',fE P N true (.rangeFunc g ps iW body) f h .normal f h'∧K h':=by
 unfold rA at hi
 split at hi
 ·rename_i F first cap hx
  obtain ⟨kr,v,h',oO,⟨c',ls',iB,bP⟩,hk⟩:=hi
  refine ⟨_,?_,hk⟩
  intro S hS B ρ a w R
  obtain rfl:=hS rfl
  refine wpIn_rangeFunc fun fn _=>?_
  obtain ⟨H0,T0⟩:=R.heap.alloc (.deferred (some []))
  have jC:(w.alloc (.deferred (some []))).heap.size=w.heap.size+1:=World.size_alloc _ _
  have nb:=iI.alloc (w.alloc (.deferred (some []))) (.loop { state:=.ready,pending:=none,fn,tmps:=a.tmps,params:=ps,assign:=iW,body,defers:=w.heap.size })
  obtain ⟨H1,T1⟩:=H0.new (h₀:=h) (o:=.loop ⟨N,ps,iW,body⟩ ls (ls.map f)) (r:=⟨w.heap.size+1,0,0,P.cellsOf 0,0⟩) nb jC.symm rfl rfl (fun _=>.inl rfl)
   ⟨_,by rw [←jC];exact nb.new,rfl,rfl,rfl,rfl,rfl,R.size,fun t=>by
    rcases BO f ls t with e | e
    ·rw [e];exact (R.tmp t).mono (aI.sM R.heap.none)
    ·rw [e];exact .any _⟩
  have hr:=R.ev aA
  rw [hx] at hr
  generalize hy:a.eval g=y at hr
  cases hr with
  | func _ s1 s2 r1 r2=>
   rename_i L8 Eu
   obtain ⟨d,aso,hinv⟩:=ayW (w:=((w.alloc (.deferred (some []))).alloc (.loop { state:=.ready,pending:=none,fn,tmps:=a.tmps,params:=ps,assign:=iW,body,defers:=w.heap.size }))) kr a g hy (w.heap.size+1)
   refine ⟨_,_,_,d,_,F,_,_,run_enterLoop_outer fn a.tmps ps iW body,aso,fun _ _=>trivial,hinv,fun h=>(by cases h),?_⟩
   have hle:=aI.sM (r:=⟨w.heap.size+1,0,0,P.cellsOf 0,0⟩) R.heap.none
   have pR:bn (ρ.add h.length ⟨w.heap.size+1,0,0,P.cellsOf 0,0⟩) (first.toList++[.func (.yield h.length) #[] #[]]++cap.toList) (L8++#[Value.func (.yield (w.heap.size+1)) #[] #[]]++Eu).toList:=by
    have q1:=(bn.qC s1 r1).mono hle
    have q3:=(bn.qC s2 r2).mono hle
    have q2:bn (ρ.add h.length ⟨w.heap.size+1,0,0,P.cellsOf 0,0⟩) [.func (.yield h.length) #[] #[]] [.func (.yield (w.heap.size+1)) #[] #[]]:=
     .cons (av.yield (i:=h.length) (r:=⟨w.heap.size+1,0,0,P.cellsOf 0,0⟩) (by simp [aI.add])) .nil
    simpa using (q1.append q2).append q3
   refine (XO (oO _ _ _ pR H1) none _).mono ?_
   rintro e w3 ⟨v',ar,rfl,hv,H3,T3⟩
   have NF:ar h.length=some ⟨w.heap.size+1,0,0,P.cellsOf 0,0⟩:=T3.ext _ _ (by simp [aI.add])
   obtain ⟨o,ho,oU⟩:=H3.obj _ _ NF
   rw [bP] at ho
   cases ho
   obtain ⟨rec,g1,g2,g3,g4,g5,g6,g7,g8⟩:=oU
   have fz:=run_endLoop (P:=P) g1 (by rw [g2];decide)
   refine ⟨_,_,fz,?_⟩
   split
   rotate_left
   ·rename_i c hc;rw [g3] at hc;cases hc
   have TT:=(T0.trans (T1.trans T3))
   have Hk:=H3.kill h.length
   have ash:aU P ar (h'.set h.length .dead) (w3.putObj (w.heap.size+1) (.loop { rec with state:=.exhausted })):=by
    refine Hk.put ?_ _
    intro j s hj hs sm
    obtain ⟨c,_,_,hc⟩:=Hk.aav g1 hj hs sm
    have br:j≠h.length:=by
     rintro rfl
     rw [List.getElem?_set_self (H3.lt NF)] at hc
     cases hc
    rw [List.getElem?_set_ne (Ne.symm br)] at hc
    exact br (H3.inj _ _ _ _ hj NF hs (.inr (.inr (.inl ⟨_,_,_,hc⟩))) ⟨_,bP,by simp⟩)
   have TL:=TT.late (l:=w.heap.size+1) (by omega) (.loop { rec with state:=.exhausted }) h.length
   refine ⟨rfl,ar,⟨R.size,?_,fun t=>(R.tmp t).mono TL.ext,ash⟩,TL⟩
   have hD:(w3.putObj (w.heap.size+1) (.loop { rec with state:=.exhausted })).heap[w.heap.size]?=some (.deferred (some [])):=by
    rw [xc (by omega)]
    have e1:(w.alloc (.deferred (some []))).heap[w.heap.size]?=some (.deferred (some [])):=World.alloc_heap_new _ _
    have e2:=nb.old (k:=w.heap.size) (by omega)
    rw [T3.fT _ (by rw [nb.size];omega) ?_,e2,e1]
    intro j s hj hs hm
    exact H1.Ov (e2.trans e1) hj hs hm.live
   refine ⟨⟨w.heap.size,rfl,marks.base R.defers,hD,?_⟩,marks.tr R.heap TL R.defers⟩
   intro d' oP he
   obtain ⟨D,e1,e2⟩:=marks.lt R.defers d' oP
   rw [e1] at he
   have:=aa0 he
   omega
 ·exact hi.elim

end
end Go.Sim


namespace Go.Sim

section
variable {P : Program} {N : Nat}

theorem alW {a:kl} {g g':Operand→Value} (h:∀x∈a.fR,g x=g' x):jJ a g=jJ a g':=by
 cases a with
 | alloc e zs=>rfl
 | kZ e n zs ps=>
  simp only [jJ]
  rw [GP (ps:=ps) h]
 | make e b zs l c=>
  simp only [kl.fR,List.mem_cons,List.not_mem_nil,or_false,forall_eq_or_imp,forall_eq] at h
  simp only [jJ,h.1,h.2]
 | mN g=>rfl

theorem alX {a:kl} {g:Operand→Value} {V:Nat→Value} {o:ak} (h:jJ a g=some (V,o)) {ρ ar:aI} {i j:Nat} {v':Value} (e:ar j=ρ i) (hv:av ρ (V i) v'):av ar (V j) v':=by
 have ptr:V=(fun i=>.pointer (some ⟨i,0,none⟩))→av ar (V j) v':=by
  rintro rfl
  cases hv with
  | ptr hr=>exact .ptr (by rw [e];exact hr)
 have slc:∀t n,V=(fun i=>sl t i 0 n)→av ar (V j) v':=by
  rintro t n rfl
  cases hv with
  | slice hr a b c d=>exact .slice (by rw [e];exact hr) a b c d
 have mp:V=(fun i=>.map (some i))→av ar (V j) v':=by
  rintro rfl
  cases hv with
  | map hr=>exact .map (by rw [e];exact hr)
 cases a with
 | mN g=>simp [jJ] at h;exact mp h.1.symm
 | alloc t zs=>simp [jJ] at h;exact ptr h.1.symm
 | kZ t n zs ps=>simp only [jJ,Option.map_eq_some_iff,Prod.mk.injEq] at h;obtain ⟨_,_,h1,_⟩:=h;exact slc t n h1.symm
 | make t b zs l c=>
  simp only [jJ] at h
  split at h
  ·split at h
   ·simp at h;exact slc t _ h.1.symm
   ·cases h
  ·cases h

theorem LS {o:ak} {u:Value} (h:mZ o=some u):(∃e xs,o=.arr e xs∧(∀x∈xs,qq x=true)∧u=.agg (.int .i64 e::xs).toArray)∨∃g,o=.dH g 0 []∧u=.tuple #[AS g]:=by
 unfold mZ at h
 split at h
 ·rename_i e xs
  split at h
  ·rename_i hx
   rw [List.all_eq_true] at hx
   injection h with h
   exact .inl ⟨e,xs,rfl,hx,h.symm⟩
  ·cases h
 ·rename_i g c es
  split at h
  ·rename_i hc
   obtain ⟨rfl,hc⟩:=hc
   rw [List.isEmpty_iff] at hc
   subst hc
   injection h with h
   exact .inr ⟨g,rfl,h.symm⟩
  ·cases h
 ·cases h

theorem aro {g g':fq} (h:AS g=AS g'):g=g':=by
 cases g <;> cases g' <;> simp [AS] at h <;> first | rfl | (subst h;rfl) | (obtain ⟨rfl,h⟩:=h;rw [Int.ofNat.inj h]) | (have:=Int.ofNat.inj h.2;rw [h.1,this])

theorem aqS {o o':ak} {u:Value} (h:mZ o=some u) (h':mZ o'=some u):o=o':=by
 rcases LS h with ⟨e,xs,rfl,_,h1⟩ | ⟨g,rfl,h1⟩ <;> rcases LS h' with ⟨e',xs',rfl,_,h2⟩ | ⟨g',rfl,h2⟩
 ·rw [h1] at h2
  simp at h2
  obtain ⟨h3,h4⟩:=h2
  have yn:e=e':=Int.ofNat.inj h3
  rw [yn,h4]
 ·rw [h1] at h2;cases h2
 ·rw [h1] at h2;cases h2
 ·rw [h1] at h2
  simp at h2
  rw [aro h2]

theorem jF.qq {ρ ar:aI} {w:World} {r:RI} {o:ak} (hx:(mZ o).isSome=true) (h:jF ρ w r o):jF ar w r o:=by
 obtain ⟨u,hu⟩:=Option.isSome_iff_exists.1 hx
 rcases LS hu with ⟨e,xs,rfl,hx,_⟩ | ⟨g,rfl,_⟩
 ·obtain ⟨h1,h0,c,h2,h3,h4⟩:=h
  refine ⟨h1,h0,c,h2,h3,fun j x hj=>?_⟩
  obtain ⟨c1,y,hy,hr⟩:=h4 j x hj
  exact ⟨c1,y,hy,qq.rel (hx x (List.mem_of_getElem? hj)) hr⟩
 ·obtain ⟨h0,aH,h1,h2,h3⟩:=h
  exact ⟨h0,aH,h1,h2,fun j b k v hj=>by simp at hj⟩

theorem aU.take {ρ ar:aI} {h:ae} {w w':World} {o:ak} {p:Nat} (R:aU P ρ h w) (hp:h[p]?=some o) (hx:(mZ o).isSome=true) (hn:ρ p=Option.none)
  (H':aU P ar (h++[o]) w') (T:Tr ρ h w ar (h++[o]) w'):aU P (fun k=>if k=p then ar h.length else ρ k) h w':=by
 have kB:=(List.getElem?_eq_some_iff.1 hp).1
 have new:(h++[o])[h.length]?=some o:=by simp
 have old:∀k,k<h.length→(h++[o])[k]?=h[k]?:=fun k hk=>List.getElem?_append_left hk
 have hle:ρ.le fun k=>if k=p then ar h.length else ρ k:=by
  intro k r hr
  have:k≠p:=by rintro rfl;rw [hn] at hr;cases hr
  simp [this,hr]
 have mt:∀k,k<h.length→(ca h k↔ca (h++[o]) k):=fun k hk=>by unfold ca;rw [old k hk]
 have BH:∀k,k<h.length→(isLive h k↔isLive (h++[o]) k):=fun k hk=>by unfold isLive;rw [old k hk]
 have On:ca h p↔ca (h++[o]) h.length:=by unfold ca;rw [new,hp]
 have Od:isLive h p↔isLive (h++[o]) h.length:=by unfold isLive;rw [new,hp]
 refine ⟨?_,?_,?_⟩
 ·intro k r hr
  by_cases hk:k=p
  ·subst hk
   simp only [if_true] at hr
   obtain ⟨o',c9,kV⟩:=H'.obj _ r hr
   rw [new] at c9
   cases c9
   exact ⟨_,hp,jF.qq hx kV⟩
  ·simp only [if_neg hk] at hr
   obtain ⟨o',c9,kV⟩:=R.obj k r hr
   obtain ⟨o2,Bi,Ng⟩:=H'.obj k r (T.ext k r hr)
   rw [old k (R.lt hr),c9] at Bi
   cases Bi
   exact ⟨o',c9,(kV.down T.ext Ng).mono hle rfl⟩
 ·intro a b r s ha hb kC hm hl
  by_cases ea:a=p <;> by_cases eb:b=p
  ·omega
  ·subst ea
   simp only [if_true] at ha
   simp only [if_neg eb] at hb
   have E6:=R.lt hb
   have:=H'.inj h.length b r s ha (T.ext b s hb) kC (On.1 hm) ((BH b E6).1 hl)
   omega
  ·subst eb
   simp only [if_true] at hb
   simp only [if_neg ea] at ha
   have qY:=R.lt ha
   have:=H'.inj a h.length r s (T.ext a r ha) hb kC ((mt a qY).1 hm) (Od.1 hl)
   omega
  ·simp only [if_neg ea] at ha
   simp only [if_neg eb] at hb
   exact H'.inj a b r s (T.ext a r ha) (T.ext b s hb) kC ((mt a (R.lt ha)).1 hm) ((BH b (R.lt hb)).1 hl)
 ·intro k r hr
  by_cases hk:k=p
  ·subst hk;simp only [if_true] at hr;exact H'.aV _ r hr
  ·simp only [if_neg hk] at hr;exact R.aV k r hr

theorem Tr.take {xu ρ ar:aI} {hb h:ae} {wb w w':World} {o:ak} {p:Nat} (TB:Tr xu hb wb ρ h w) (hpb:hb.length≤p) (hn:ρ p=Option.none) (T:Tr ρ h w ar (h++[o]) w'):
  Tr xu hb wb (fun k=>if k=p then ar h.length else ρ k) h w':=by
 have TT:=TB.trans T
 exact {
  ext:=by
   intro k r hr
   have:=TB.ext k r hr
   have hk:k≠p:=by rintro rfl;rw [hn] at this;cases this
   simp [hk,this]
  len:=TB.len
  il:=TB.il
  kinds:=TB.kinds
  fresh:=by
   intro k r hr fG
   by_cases hk:k=p
   ·subst hk
    simp only [if_true] at hr
    have hbn:xu h.length=none:=by
     cases hq:xu h.length with
     | none=>rfl
     | some q=>have:=TB.il _ _ hq;have:=TB.len;omega
    exact ⟨hpb,(TT.fresh _ r hr hbn).2⟩
   ·simp only [if_neg hk] at hr
    exact TB.fresh k r hr fG
  gE:=TT.gE
  fT:=TT.fT
  os:=TT.os
  tape:=TT.tape
  output:=TT.output }

theorem yf {l:List cD} {F:Nat→Nat→Value} {H:Nat→ae} {V:Nat→Value} (T:Trace P l 0 F H V) {q:Nat} {d:cD} {a:kl} (hq:l[q]?=some d) (ho:d.op.op=.e (.fl a)) (hg:d.op.guard=none):
  ∃Vf o,jJ a (ev (F q))=some (Vf,o)∧V q=Vf (H q).length∧H (q+1)=H q++[o]∧(mZ o).isSome=true∧ee (H (q+1)) (V q)=mZ o∧
   ∀e' oe,l[e']?=some oe→oe.op.op.cW=true→q<e'→oe.pre.testBit q=false→ee (H (e'+1)) (V q)=mZ o:=by
 have hw:gD d.op.guard (F (0+q))=true:=by rw [hg];rfl
 have hy:=T.yes q d hq hw
 obtain ⟨u,u1,u2⟩:=T.Yv q d a hq ho hw
 simp only [Nat.zero_add] at hy u1 u2
 rw [ho] at hy
 simp only [cL,lh,aal] at hy
 cases qY:jJ a (ev (F q)) with
 | none=>rw [qY] at hy;exact hy.elim
 | some p=>
  obtain ⟨Vf,o⟩:=p
  rw [qY] at hy
  simp only [Option.map_some] at hy
  obtain ⟨h1,h2⟩:=hy
  have gu:=KL qY (H q).length
  rw [h1] at gu
  have A5:ee (H (q+1)) (V q)=mZ o:=by
   unfold ee
   rw [gu,←h2]
   simp
  rw [A5] at u1
  exact ⟨Vf,o,rfl,h1.symm,h2.symm,by rw [u1];rfl,A5,fun e' oe he hE aB hp=>(u2 e' oe he hE aB hp).trans u1.symm⟩

def Jd (l:List cD) (S:List Nat) (m:Nat):Prop:=∀e oe,l[e]?=some oe→oe.op.op.cW=true→gy oe=false→(e∈S↔e<m)

theorem wK {o:cD}:gy o=true↔∃a,o.op.op=.e (.fl a):=by
 unfold gy
 constructor
 ·intro h
  split at h
  ·rename_i a ha;exact ⟨a,ha⟩
  ·cases h
 ·rintro ⟨a,ha⟩;rw [ha]

structure Laid (P:Program) (N:Nat) (ops:Array Oper) (l:List cD) (perm:Nat→Nat) (mF:Nat):Prop where
 len:l.length=ops.size
 lt:∀q,q<ops.size→perm q<ops.size
 inj:∀q k,q<ops.size→k<ops.size→perm q=perm k→q=k
 sur:∀j,j<ops.size→∃q,q<ops.size∧perm q=j
 comp:∀q o d,ops[perm q]?=some o→l[q]?=some d→∃x,vk P N ops o=some x∧x.dst=d.op.dst∧x.guard=d.op.guard∧tmpsOf x.op.fR=tmpsOf d.op.op.fR∧((gy d=false∧x.op=d.op.op)∨∃a,x.op=.e a.Cj∧d.op.op=.e (.fl a)∧d.op.guard=none)
 pre:∀q d,l[q]?=some d→∀k,k<ops.size→d.pre.testBit k=((ik (ops.toList.map eD) []).getD (perm q) 0).testBit (perm k)
 back:∀j e,e∈(ops.toList.map eD).getD j []→e<j
 zv:∀i j oi oj,l[i]?=some oi→l[j]?=some oj→zt oj j oi i=true
 head:mF≤l.length
 low:∀q d,l[q]?=some d→q<mF→d.op.op.cW=true→gy d=true
 high:∀q d,l[q]?=some d→mF≤q→gy d=false

theorem afL {oi oj:cD} {i j t:Nat} (h:zt oj j oi i=true) (br:i≠j) (hd:oi.op.dst=some t) (ht:rF oj t=true):(if i<j then oj.pre.testBit i else oi.pre.testBit j)=true:=by
 unfold zt at h
 rw [hd] at h
 simp only [Bool.and_eq_true,Bool.or_eq_true,beq_iff_eq,ht,Bool.not_true,Bool.false_eq_true,false_or] at h
 rcases h.1 with h | h
 ·exact absurd h br
 ·exact h

theorem P4 {oi oj:cD} {i j:Nat} (h:zt oj j oi i=true) (aB:i<j) (hi:oi.op.op.cW=true) (hj:oj.op.op.cW=true) (fi:gy oi=false) (fj:gy oj=false):oj.pre.testBit i=true:=by
 unfold zt at h
 simp only [Bool.and_eq_true,aB,decide_true,hi,hj,fi,fj,Bool.and_self,Bool.not_true,Bool.not_false,Bool.false_or] at h
 exact h.2

theorem tU {ops:Array Oper} {l:List cD} {perm:Nat→Nat} {mF:Nat} (L:Laid P N ops l perm mF) (kT:∀(q:Nat) (d:cD),l[q]?=some d→gy d=true→d.op.guard=none) {F:Nat→Nat→Value} {H:Nat→ae} {V:Nat→Value} (T:Trace P l 0 F H V) {k:Nat}:∀(d:Nat),k+d≤mF→∃os,H (k+d)=H k++os
 | 0,_=>⟨[],by simp⟩
 | d+1,hd=>by
  obtain ⟨os,gv⟩:=tU L kT T (k:=k) d (by omega)
  have aB:k+d<l.length:=by have:=L.head;omega
  have bP:l[k+d]?=some l[k+d]:=List.getElem?_eq_getElem aB
  rw [show k+(d+1)=k+d+1 by omega]
  cases hE:l[k+d].op.op.cW with
  | true=>
   have hf:=L.low (k+d) _ bP (by omega) hE
   obtain ⟨a,ha⟩:=wK.1 hf
   obtain ⟨_,oo,_,_,h3,_⟩:=yf T bP ha (kT _ _ bP hf)
   exact ⟨os++[oo],by rw [h3,gv];simp⟩
  | false=>
   have:=Iq T (i:=k+d) 1 (by omega) (fun e oe h1 h2 h3=>by
    have:e=k+d:=by omega
    subst this
    rw [bP] at h1
    cases h1
    rw [hE] at h2
    cases h2)
   exact ⟨os,by rw [this,gv]⟩

theorem ap2 {ops:Array Oper} {l:List cD} {perm:Nat→Nat} {mF:Nat} (L:Laid P N ops l perm mF) (kT:∀(q:Nat) (d:cD),l[q]?=some d→gy d=true→d.op.guard=none) {F:Nat→Nat→Value} {H:Nat→ae} {V:Nat→Value} (T:Trace P l 0 F H V)
  {xu:aI} {wb:World} {S r:List Nat} (hv:Valid ops S r):
  zY (ops.toList.map eD) S→(∀i∈S,i<ops.size)→∀Sp,(∀q,q∈Sp↔q<ops.size∧perm q∈S)→∀m,mF≤m→m≤l.length→Jd l Sp m→∀S' B ρ a w,Rel P N B ρ (dG V Sp l 0 (F 0)) (H m) a w→(H mF).length≤(H m).length→
   (∀(q:Nat) (d:cD),l[q]?=some d→gy d=true→q∉Sp→ρ (H q).length=none∧ee (H m) (V q)=ee (H (q+1)) (V q))→Tr xu (H 0) wb ρ (H m) w→∀Q:Exit→Act→World→Prop,
   (∀ar a' w',Rel P N B ar (F l.length) (H l.length) a' w'→Tr xu (H 0) wb ar (H l.length) w'→Q .normal a' w')→wpOpsIn (FR S') 0 P ops Q r a w:=by
 induction hv with
 | nil eQ=>
  rename_i S
  intro fa aB Sp yp m Bd hm dD S' B ρ a w R _ _ TB Q hq
  have iK:∀q,q<l.length→q∈Sp:=fun q hq=>(yp q).2 ⟨by rw [←L.len];exact hq,eQ _ (L.lt q (by rw [←L.len];exact hq))⟩
  have hF:dG V Sp l 0 (F 0)=F l.length:=by
   have h1:=AQ T l 0 (List.range l.length) l.length (fun k=>by simp) (fun k=>by simp) (by omega) (by omega)
   rw [←h1]
   funext t
   refine tL (fun k d hk _=>?_) rfl
   have fO:=(List.getElem?_eq_some_iff.1 hk).1
   simp only [Nat.zero_add,List.mem_range]
   exact ⟨fun _=>fO,fun _=>iK k fO⟩
  have hH:H l.length=H m:=by
   refine oC T hm (Nat.le_refl _) ?_
   rintro e oe he hE ⟨h1,h2⟩
   have:=(dD e oe he hE (L.high e oe he (by omega))).1 (iK e h2)
   omega
  rw [hF] at R
  simp only [wpOpsIn]
  exact hq ρ a w (by rw [hH];exact R) (by rw [hH];exact TB)
 | cons sv su vV hvr ih=>
  rename_i S j0 o r
  intro fa aB Sp yp m Bd hm dD S' B ρ a w R hlen pW TB Q hq
  have Zm:j0<ops.size:=(Array.getElem?_eq_some_iff.1 sv).1
  obtain ⟨j,sg,re⟩:=L.sur j0 Zm
  have pZ:j<l.length:=by rw [L.len];exact sg
  have bP:l[j]?=some (l[j]'pZ):=List.getElem?_eq_getElem _
  generalize hd0:l[j]'pZ=d at bP
  obtain ⟨x,hc,x1,x2,x3,x4⟩:=L.comp j o d (by rw [re];exact sv) bP
  obtain ⟨q1,q2,q3,q4,q5⟩:=AB hc
  rw [x2] at q4
  rw [x1] at q5
  have M5:j∉Sp:=fun h=>su (by rw [←re];exact ((yp j).1 h).2)
  have iX:(ops.toList.map eD).getD j0 []=eD o:=by
   simp [List.getD,sv]
  have q9:zY (ops.toList.map eD) (j0::S):=by
   intro k e hk he
   rcases List.mem_cons.1 hk with rfl | hk
   ·rw [iX] at he
    exact List.mem_cons_of_mem _ (vV e he)
   ·exact List.mem_cons_of_mem _ (fa k e hk he)
  have AY:∀q,q∈j::Sp↔q<ops.size∧perm q∈j0::S:=by
   intro q
   rw [List.mem_cons,List.mem_cons,yp]
   constructor
   ·rintro (rfl | ⟨h1,h2⟩)
    ·exact ⟨sg,.inl re⟩
    ·exact ⟨h1,.inr h2⟩
   ·rintro ⟨h1,h2 | h2⟩
    ·exact .inl (L.inj q j h1 sg (h2.trans re.symm))
    ·exact .inr ⟨h1,h2⟩
  have before:∀i,i<ops.size→d.pre.testBit i=true→i∈Sp:=by
   intro i hi hb
   rw [L.pre j d bP i hi,re] at hb
   exact (yp i).2 ⟨hi,GW fa L.back j0 (perm i) (by rw [iX];exact vV) hb⟩
  have behind:∀k dk,l[k]?=some dk→dk.pre.testBit j=true→k∉Sp:=by
   intro k dk hk hb Ba
   have hkn:k<ops.size:=by rw [←L.len];exact (List.getElem?_eq_some_iff.1 hk).1
   rw [L.pre k dk hk j sg,re] at hb
   have ar1:=((yp k).1 Ba).2
   exact su (GW fa L.back (perm k) j0 (fun e he=>fa (perm k) e ar1 he) hb)
  have idx:∀{k dk},l[k]?=some dk→k<ops.size:=fun hk=>by rw [←L.len];exact (List.getElem?_eq_some_iff.1 hk).1
  have slot:∀t,rF d t=true→dG V Sp l 0 (F 0) t=F j t:=by
   intro t ht
   have h1:=AQ T l 0 (List.range j) j (fun k=>by simp) (fun k=>by simp) (by omega) (by omega)
   rw [←h1]
   refine tL (fun k dk hk vT=>?_) rfl
   simp only [Nat.zero_add,List.mem_range]
   by_cases oQ:k=j
   ·subst oQ
    exact ⟨fun h=>absurd h M5,fun h=>absurd h (Nat.lt_irrefl _)⟩
   ·have hp:=afL (L.zv k j dk d hk bP) oQ vT ht
    by_cases kA:k<j
    ·rw [if_pos kA] at hp
     exact ⟨fun _=>kA,fun _=>before k (idx hk) hp⟩
    ·rw [if_neg kA] at hp
     exact ⟨fun h=>absurd h (behind k dk hk hp),fun h=>absurd h kA⟩
  have wu:∀t∈d.op.reads,dG V Sp l 0 (F 0) t=F j t:=fun t ht=>slot t (by simp [rF,ht])
  have yE:∀t∈tmpsOf d.op.op.fR,dG V Sp l 0 (F 0) t=F j t:=fun t ht=>wu t (by simp [gI.reads,ht])
  have Bu:gD d.op.guard (dG V Sp l 0 (F 0))=gD d.op.guard (F j):=by
   cases hg:d.op.guard with
   | none=>rfl
   | some sb=>
    obtain ⟨s,b⟩:=sb
    simp only [gD]
    rw [wu s (by simp [gI.reads,hg])]
  have MR:pQ d.op.guard (dG V Sp l 0 (F 0)):=by
   have:=T.Mq j d bP
   simp only [Nat.zero_add] at this
   cases hg:d.op.guard with
   | none=>trivial
   | some sb=>
    obtain ⟨s,b⟩:=sb
    rw [hg] at this
    simp only [pQ] at this⊢
    rw [wu s (by simp [gI.reads,hg])]
    exact this
  have Bv:=Cn q4 R MR
  have iL:dG V (j::Sp) l 0 (F 0)=cX (dG V Sp l 0 (F 0)) o.dst (V j):=by
   rw [←q5]
   funext t
   by_cases j8:d.op.dst=some t
   ·have h1:=Md (V:=V) (S:=j::Sp) (l:=l) (i:=0) (f:=F 0) (k:=j) (d:=d) bP j8 (by simp) (by
     intro k' d' b7 oP kA
     have hp:=afL (L.zv k' j d' d b7 bP) (by omega) oP (by simp [rF,j8])
     rw [if_neg (by omega)] at hp
     have:=behind k' d' b7 hp
     simp only [Nat.zero_add,List.mem_cons,not_or]
     exact ⟨by omega,this⟩)
    rw [h1]
    simp [j8,cX,qD]
   ·have h1:dG V (j::Sp) l 0 (F 0) t=dG V Sp l 0 (F 0) t:=by
     refine tL (fun k dk hk vT=>?_) rfl
     have oQ:k≠j:=by
      rintro rfl
      rw [bP] at hk
      cases hk
      exact j8 vT
     simp [oQ]
    rw [h1]
    cases tS:d.op.dst with
    | none=>rfl
    | some y=>
     have:t≠y:=by rintro rfl;exact j8 tS
     simp [cX,qD,this]
  have ka:∀i∈j0::S,i<ops.size:=by
   intro i hi
   rcases List.mem_cons.1 hi with rfl | hi
   ·exact Zm
   ·exact aB i hi
  -- aAv still to apL stay rM aAY are
  have Cc:∀q dq,l[q]?=some dq→gy dq=true→q<mF:=by
   intro q dq hq hf
   apply Classical.byContradiction
   intro h
   rw [L.high q dq hq (by omega)] at hf
   cases hf
  have ax6:∀q dq,l[q]?=some dq→gy dq=true→(H q).length<(H mF).length:=by
   intro q dq hq hf
   have hqm:=Cc q dq hq hf
   obtain ⟨a,ha⟩:=wK.1 hf
   obtain ⟨_,oo,_,_,h3,_⟩:=yf T hq ha (kT _ _ hq hf)
   obtain ⟨os,gv⟩:=tU L kT T (k:=q+1) (mF-(q+1)) (by omega)
   rw [show q+1+(mF-(q+1))=mF by omega,h3] at gv
   rw [gv]
   simp
  have aaF:∀{ar:aI} {h':ae} {w':World},Tr ρ (H m) w ar h' w'→∀q dq,l[q]?=some dq→gy dq=true→ρ (H q).length=none→ar (H q).length=none:=by
   intro ar h' w' TT q dq hq hf hn
   cases hr:ar (H q).length with
   | none=>rfl
   | some s=>
    have:=(TT.fresh _ s hr hn).1
    have:=ax6 q dq hq hf
    omega
  -- fS Cg,where fS operation writes memory
  have Ch:d.op.op.cW=true→gy d=false→mF≤j∧H m=H j∧Jd l (j::Sp) (j+1):=by
   intro hE oT
   have A9:mF≤j:=by
    apply Classical.byContradiction
    intro h
    rw [L.low j d bP (by omega) hE] at oT
    cases oT
   have nS:m≤j:=by
    apply Classical.byContradiction
    intro h
    exact M5 ((dD j d bP hE oT).2 (by omega))
   refine ⟨A9,?_,?_⟩
   ·refine (oC T nS (by omega) ?_).symm
    rintro e oe he j7 ⟨h1,h2⟩
    have se:=L.high e oe he (by omega)
    have hb:=P4 (L.zv e j oe d he bP) h2 j7 hE se oT
    have:=(dD e oe he j7 se).1 (before e (idx he) hb)
    omega
   ·intro e oe he j7 se
    rcases Nat.lt_trichotomy e j with kA | rfl | pX
    ·have hb:=P4 (L.zv e j oe d he bP) kA j7 hE se oT
     exact ⟨fun _=>by omega,fun _=>List.mem_cons_of_mem _ (before e (idx he) hb)⟩
    ·exact ⟨fun _=>by omega,fun _=>by simp⟩
    ·have hb:=P4 (L.zv j e d oe bP he) pX hE j7 oT se
     have:=behind e oe he hb
     constructor
     ·intro h
      rcases List.mem_cons.1 h with h | h
      ·omega
      ·exact absurd h this
     ·intro h;omega
  have zF:(d.op.op.cW=false∨gy d=true)→Jd l (j::Sp) m:=by
   intro hE e oe he j7 se
   have br:e≠j:=by
    rintro rfl
    rw [bP] at he
    cases he
    rcases hE with hE | hE
    ·rw [hE] at j7;cases j7
    ·rw [hE] at se;cases se
   rw [←dD e oe he j7 se]
   simp [br]
  have Bx:=T.yes j d bP
  have cU:=T.no j d bP
  simp only [Nat.zero_add] at Bx cU
  simp only [wpOpsIn,sv]
  by_cases hw:gD d.op.guard (F j)=true
  ·rw [if_pos (by rw [Bv,Bu,hw])]
   have hs:=Bx hw
   rcases x4 with ⟨oT,Ri⟩ | ⟨aa,Ri,LG,dg⟩
   ·rw [Ri] at q3
    by_cases hE:d.op.op.cW=true
    ·obtain ⟨e0,e1,e2⟩:=Ch hE oT
     rw [←Hx yE,←e1] at hs
     obtain ⟨v,h',st,hv,hh⟩:=w7 (N:=N) q3 q1 hs
     subst hv
     subst hh
     refine st S' B ρ a w R _ _ ?_
     intro ar v' w' sE HH TT
     have R':=R.ry q2 TT sE HH
     rw [←iL] at R'
     refine ih q9 ka (j::Sp) AY (j+1) (by omega) (by omega) e2 S' B ar _ w' R' (Nat.le_trans hlen TT.len) ?_ (TB.trans TT) Q hq
     intro q dq fC hf nV
     have ZE:q∉Sp:=fun h=>nV (List.mem_cons_of_mem _ h)
     obtain ⟨i1,i2⟩:=pW q dq fC hf ZE
     refine ⟨aaF TT q dq fC hf i1,?_⟩
     obtain ⟨a',vJ⟩:=wK.1 hf
     obtain ⟨_,oo,_,_,_,_,h5,h6⟩:=yf T fC vJ (kT _ _ fC hf)
     rw [h5]
     refine h6 j d bP hE (by have:=Cc q dq fC hf;omega) ?_
     cases hb:d.pre.testBit q with
     | false=>rfl
     | true=>exact absurd (before q (idx fC) hb) ZE
    ·have eZ:d.op.op.cW=false:=by simpa using hE
     -- pz is looked at has one value at this Cg and in fS aAR order
     have df:cL P d.op.op (dG V Sp l 0 (F 0)) (H m) fun v h'=>v=V j∧h'=H m:=by
      rw [Hx yE]
      cases cI:d.op.op with
      | p po=>
       rw [cI] at hs
       simp only [cL,eK] at hs⊢
       split at hs
       ·exact ⟨hs.1,trivial⟩
       ·exact hs.elim
      | l lo=>
       have yK:eJ lo (ev (F j)) (H j)=some (V j):=by
        rw [cI] at hs
        simp only [cL,eK] at hs
        split at hs
        ·rename_i v hv
         rw [hv,hs.1]
        ·exact hs.elim
       -- from a place at or behind fS head,to a Cg before it
       have down:mF≤j→m≤j→eJ lo (ev (F j)) (H m)=some (V j):=by
        intro A9 nS
        by_cases hex:∃e oe,l[e]?=some oe∧oe.op.op.cW=true∧m≤e∧e<j
        ·have key:∀n,(∃e oe,l[e]?=some oe∧oe.op.op.cW=true∧m≤e∧e<j∧e<n)→∃e oe,l[e]?=some oe∧oe.op.op.cW=true∧m≤e∧e<j∧∀e' gX,l[e']?=some gX→gX.op.op.cW=true→¬(m≤e'∧e'<e):=by
          intro n
          induction n with
          | zero=>rintro ⟨e,oe,_,_,_,_,h⟩;omega
          | succ n qi=>
           rintro ⟨e,oe,h1,h2,h3,h4,h5⟩
           by_cases dC:∃e oe,l[e]?=some oe∧oe.op.op.cW=true∧m≤e∧e<j∧e<n
           ·exact qi dC
           ·refine ⟨e,oe,h1,h2,h3,h4,?_⟩
            rintro e' gX k1 k2 ⟨k3,k4⟩
            exact dC ⟨e',gX,k1,k2,k3,by omega,by omega⟩
         obtain ⟨e0,w6,g1,g2,g3,g4⟩:=hex
         obtain ⟨e,oe,h1,h2,h3,h4,h5⟩:=key j ⟨e0,w6,g1,g2,g3,g4,g4⟩
         have vH:H e=H m:=oC T h3 (by omega) (fun e' gX k1 k2 k3=>h5 e' gX k1 k2 k3)
         rw [←vH]
         have sr:d.pre.testBit e=false:=by
          cases hb:d.pre.testBit e with
          | false=>rfl
          | true=>
           have:=(dD e oe h1 h2 (L.high e oe h1 (by omega))).1 (before e (idx h1) hb)
           omega
         have:=T.P7 e oe j d lo h1 h2 bP cI (by simpa using hw) h4 (by simpa using sr)
         simpa using this
        ·have vI:H j=H m:=oC T nS (by omega) (fun e oe h1 h2 h3=>hex ⟨e,oe,h1,h2,h3⟩)
         rw [←vI]
         exact yK
       -- to a Cg behind it,from where fS value is known
       have up:∀b,j≤b→mF≤b→b≤m→eJ lo (ev (F j)) (H b)=some (V j)→eJ lo (ev (F j)) (H m)=some (V j):=by
        intro b Zl hbF MA hbv
        by_cases hex:∃e oe,l[e]?=some oe∧oe.op.op.cW=true∧b≤e∧e<m
        ·have key:∀n,(∃e oe,l[e]?=some oe∧oe.op.op.cW=true∧b≤e∧e<m∧m≤e+n)→∃e oe,l[e]?=some oe∧oe.op.op.cW=true∧b≤e∧e<m∧∀e' gX,l[e']?=some gX→gX.op.op.cW=true→¬(e+1≤e'∧e'<m):=by
          intro n
          induction n with
          | zero=>rintro ⟨e,oe,_,_,_,_,h⟩;omega
          | succ n qi=>
           rintro ⟨e,oe,h1,h2,h3,h4,h5⟩
           by_cases dC:∃e oe,l[e]?=some oe∧oe.op.op.cW=true∧b≤e∧e<m∧m≤e+n
           ·exact qi dC
           ·refine ⟨e,oe,h1,h2,h3,h4,?_⟩
            rintro e' gX k1 k2 ⟨k3,k4⟩
            exact dC ⟨e',gX,k1,k2,by omega,by omega,by omega⟩
         obtain ⟨e0,w6,g1,g2,g3,g4⟩:=hex
         obtain ⟨e,oe,h1,h2,h3,h4,h5⟩:=key m ⟨e0,w6,g1,g2,g3,g4,by omega⟩
         have br:e≠j:=by
          rintro rfl
          rw [bP] at h1
          cases h1
          rw [eZ] at h2
          cases h2
         have vH:H m=H (e+1):=oC T (by omega) hm (fun e' gX k1 k2 k3=>h5 e' gX k1 k2 k3)
         rw [vH]
         have sr:oe.pre.testBit j=false:=by
          cases hb:oe.pre.testBit j with
          | false=>rfl
          | true=>exact absurd ((dD e oe h1 h2 (L.high e oe h1 (by omega))).2 h4) (behind e oe h1 hb)
         have:=T.Me j d lo e oe bP cI (by simpa using hw) h1 h2 (by omega) (by simpa using sr)
         simpa using this
        ·have vI:H m=H b:=oC T MA hm (fun e oe h1 h2 h3=>hex ⟨e,oe,h1,h2,h3⟩)
         rw [vI]
         exact hbv
       have bQ:eJ lo (ev (F j)) (H m)=some (V j):=by
        by_cases A9:mF≤j
        ·rcases Nat.le_total m j with nS | nS
         ·exact down A9 nS
         ·exact up j (Nat.le_refl _) A9 nS yK
        ·obtain ⟨os,gv⟩:=tU L kT T (k:=j) (mF-j) (by omega)
         rw [show j+(mF-j)=mF by omega] at gv
         refine up mF (by omega) (Nat.le_refl _) Bd ?_
         rw [gv]
         exact asZ os yK
       simp [cL,eK,bQ]
      | e eo=>rw [cI] at eZ;cases eZ
      | call g args=>rw [cI] at eZ;cases eZ
      | jx x args=>rw [cI] at eZ;cases eZ
     obtain ⟨v,h',st,hv,hh⟩:=w7 (N:=N) q3 q1 df
     subst hv
     subst hh
     refine st S' B ρ a w R _ _ ?_
     intro ar v' w' sE HH TT
     have R':=R.ry q2 TT sE HH
     rw [←iL] at R'
     refine ih q9 ka (j::Sp) AY m Bd hm (zF (.inl eZ)) S' B ar _ w' R' hlen ?_ (TB.trans TT) Q hq
     intro q dq fC hf nV
     obtain ⟨i1,i2⟩:=pW q dq fC hf (fun h=>nV (List.mem_cons_of_mem _ h))
     exact ⟨aaF TT q dq fC hf i1,i2⟩
   ·-- a new object
    have hf:gy d=true:=wK.2 ⟨aa,LG⟩
    obtain ⟨Vf,oo,h1,h2,h3,h4,h5,h6⟩:=yf T bP LG dg
    obtain ⟨i1,i2⟩:=pW j d bP hf M5
    have qY:jJ aa (ev (dG V Sp l 0 (F 0)))=some (Vf,oo):=by
     rw [←h1]
     refine alW (LY fun t ht=>yE t ?_)
     rw [LG]
     exact ht
    have gu:=KL h1 (H j).length
    rw [←h2] at gu
    have asa:(H m)[(H j).length]?=some oo:=by
     rw [h5] at i2
     unfold ee at i2
     rw [gu] at i2
     simp only [Option.bind_some] at i2
     cases ho:(H m)[(H j).length]? with
     | none=>
      rw [ho] at i2
      obtain ⟨u,hu⟩:=Option.isSome_iff_exists.1 h4
      rw [hu] at i2
      cases i2
     | some o'=>
      rw [ho] at i2
      obtain ⟨u,A5⟩:=Option.isSome_iff_exists.1 h4
      simp only [Option.bind_some] at i2
      rw [aqS (i2.trans A5) A5]
    have asE:cL P x.op (dG V Sp l 0 (F 0)) (H m) fun v h'=>v=Vf (H m).length∧h'=H m++[oo]:=by
     rw [Ri]
     simp only [cL,lh,asY,aal,qY,Option.map_some]
     exact ⟨trivial,trivial⟩
    obtain ⟨v,h',st,hv,hh⟩:=w7 (N:=N) q3 q1 asE
    subst hv
    subst hh
    refine st S' B ρ a w R _ _ ?_
    intro ar v' w' sE HH TT
    have HR:=R.heap.take asa h4 i1 HH TT
    have hle:ρ.le fun k=>if k=(H j).length then ar (H m).length else ρ k:=by
     intro k s hk
     have:k≠(H j).length:=by rintro rfl;rw [i1] at hk;cases hk
     simp [this,hk]
    have R1:Rel P N B (fun k=>if k=(H j).length then ar (H m).length else ρ k) (dG V Sp l 0 (F 0)) (H m) a w':=⟨R.size,marks.tr R.heap TT R.defers,fun t=>(R.tmp t).mono hle,HR⟩
    have wA:av (fun k=>if k=(H j).length then ar (H m).length else ρ k) (V j) v':=by
     rw [h2]
     exact alX h1 (by simp) sE
    have R':=R1.ry q2 (Tr.refl HR) wA HR
    rw [←iL] at R'
    have Zl:(H 0).length≤(H j).length:=by
     obtain ⟨os,gv⟩:=tU L kT T (k:=0) j (by have:=Cc j d bP hf;omega)
     rw [Nat.zero_add] at gv
     rw [gv];simp
    refine ih q9 ka (j::Sp) AY m Bd hm (zF (.inr hf)) S' B _ _ w' R' hlen ?_ (TB.take Zl i1 TT) Q hq
    intro q dq fC MM nV
    have hqj:q≠j:=fun h=>nV (by simp [h])
    obtain ⟨k1,k2⟩:=pW q dq fC MM (fun h=>nV (List.mem_cons_of_mem _ h))
    refine ⟨?_,k2⟩
    have br:(H q).length≠(H j).length:=by
     have grow:∀{a b:Nat} {da:cD},l[a]?=some da→gy da=true→a<b→b<mF→(H a).length<(H b).length:=by
      intro a b da ha Zb gr hb
      obtain ⟨a',vJ⟩:=wK.1 Zb
      obtain ⟨_,oo',_,_,g3,_⟩:=yf T ha vJ (kT _ _ ha Zb)
      obtain ⟨os,gv⟩:=tU L kT T (k:=a+1) (b-(a+1)) (by omega)
      rw [show a+1+(b-(a+1))=b by omega,g3] at gv
      rw [gv]
      simp
     rcases Nat.lt_or_gt_of_ne hqj with h | h
     ·have:=grow fC MM h (Cc j d bP hf);omega
     ·have:=grow bP hf h (Cc q dq fC MM);omega
    simp [br,k1]
  ·have ke:gD d.op.guard (F j)=false:=by simpa using hw
   rw [if_neg (by rw [Bv,Bu,ke];simp)]
   obtain ⟨n1,n2⟩:=cU ke
   have R':=R.ry q2 (Tr.refl R.heap) (av.undef _) R.heap
   rw [n1] at iL
   rw [←iL] at R'
   have oT:gy d=false:=by
    cases hf:gy d with
    | false=>rfl
    | true=>rw [kT j d bP hf] at ke;cases ke
   by_cases hE:d.op.op.cW=true
   ·obtain ⟨e0,e1,e2⟩:=Ch hE oT
    have e3:H (j+1)=H m:=by rw [n2,e1]
    refine ⟨fun _ _=>trivial,ih q9 ka (j::Sp) AY (j+1) (by omega) (by omega) e2 S' B ρ _ w (by rw [e3];exact R') (by rw [e3];exact hlen) ?_ (by rw [e3];exact TB) Q hq⟩
    intro q dq fC hf nV
    rw [e3]
    exact pW q dq fC hf (fun h=>nV (List.mem_cons_of_mem _ h))
   ·exact ⟨fun _ _=>trivial,ih q9 ka (j::Sp) AY m Bd hm (zF (.inl (by simpa using hE))) S' B ρ _ w R' hlen (fun q dq fC hf nV=>pW q dq fC hf (fun h=>nV (List.mem_cons_of_mem _ h))) TB Q hq⟩

end
end Go.Sim


namespace Go.Sim

section
variable {P : Program} {N : Nat}

theorem apN {op:Op} {a:kl} (h:gq P op=some (.fl a)):False:=by
 unfold gq at h
 split at h
 all_goals repeat' (split at h)
 all_goals first | (cases h;done) | (simp at h;done) | (simp only [Option.map_eq_some_iff] at h;obtain ⟨_,_,h⟩:=h;cases h;done)

theorem apP {op:Op} {a:kl} (h:rQ P op=some (.e (.fl a))):False:=by
 rcases LB h with ⟨po,e,_⟩ | ⟨lo,e,_⟩ | ⟨eo,e,he⟩ | ⟨g,args,at_,_,_,e⟩ | ⟨x,args,at_,_,e⟩
 ·cases e
 ·cases e
 ·cases e;exact apN he
 ·cases e
 ·cases e

theorem X2:∀{l:List Nat},EE l=true→l.Nodup
 | [],_=>.nil
 | x::xs,h=>by
  simp only [EE,Bool.and_eq_true] at h
  rw [List.nodup_cons]
  exact ⟨by simpa using h.1,X2 h.2⟩

theorem aaK {l:List cD} {fl:List Nat} {p0:List Nat}:∀{perm:List Nat},(∀i∈perm,i<l.length)→∀q:Nat,
  (perm.filterMap fun i=>(l[i]?).map fun o=>(⟨if fl.contains i then AP o.op else o.op,F0 o.pre p0 0⟩:cD))[q]?=(perm[q]?).bind fun i=>(l[i]?).map fun o=>⟨if fl.contains i then AP o.op else o.op,F0 o.pre p0 0⟩
 | [],_,q=>by simp
 | i::perm,h,q=>by
  have bF:i<l.length:=h i (by simp)
  have hi:l[i]?=some l[i]:=List.getElem?_eq_getElem bF
  rw [List.filterMap_cons,hi]
  simp only [Option.map_some]
  cases q with
  | zero=>simp [hi]
  | succ q=>
   rw [List.getElem?_cons_succ,List.getElem?_cons_succ]
   exact aaK (fun i hi=>h i (by simp [hi])) q

theorem apO {ops:Array Oper} {l:List cD} {perm:List Nat} (hc:Ex P N ops=some (l,perm)):P.follows .mixedOrders=true∧u7 ops.toList 0=true∧Laid P N ops l (fun q=>perm.getD q 0) (rb l)∧∀(q:Nat) (d:cD),l[q]?=some d→gy d=true→d.op.guard=none:=by
 unfold Ex at hc
 split at hc
 ·rename_i ios MV
  simp only at hc
  split at hc
  ·rename_i pU
   simp only [Option.some.injEq,Prod.mk.injEq] at hc
   obtain ⟨hl,hp⟩:=hc
   rw [hp] at hl pU
   rw [hl] at pU
   simp only [Bool.and_eq_true] at pU
   obtain ⟨⟨Be,pS⟩,aA⟩:=pU
   obtain ⟨g1,g2⟩:=LA MV
   have kB:(ik (ops.toList.map eD) []).length=ops.size:=by rw [Es];simp
   have M0:ios.length≤(ik (ops.toList.map eD) []).length:=by rw [Es];simp [g1]
   obtain ⟨z1,z2⟩:=Rj M0
   have hz:(mi ios (ik (ops.toList.map eD) [])).length=ops.size:=by rw [z1,g1];simp
   unfold okF at aA
   simp only [Bool.and_eq_true,beq_iff_eq] at aA
   obtain ⟨⟨⟨⟨⟨⟨⟨o1,o2⟩,o3⟩,o4⟩,o5⟩,o6⟩,o7⟩,o8⟩:=aA
   rw [kB] at o1 o2 o4 o7
   rw [List.all_eq_true] at o4 o5 o6 o7 o8
   have aB:∀i∈perm,i<ops.size:=fun i hi=>by simpa using o4 i hi
   have bP:∀q,q<ops.size→perm.getD q 0∈perm:=by
    intro q hq
    have:q<perm.length:=by omega
    rw [List.getD_eq_getElem?_getD,List.getElem?_eq_getElem this]
    exact List.getElem_mem this
   have ng:=X2 o3
   have inj:∀q k,q<ops.size→k<ops.size→perm.getD q 0=perm.getD k 0→q=k:=by
    intro q k hq hk he
    have fC:q<perm.length:=by omega
    have b7:k<perm.length:=by omega
    rw [List.getD_eq_getElem?_getD,List.getD_eq_getElem?_getD,List.getElem?_eq_getElem fC,List.getElem?_eq_getElem b7] at he
    simp only [Option.getD_some] at he
    have hp:=List.pairwise_iff_getElem.1 ng
    rcases Nat.lt_trichotomy q k with h | h | h
    ·exact absurd he (hp q k fC b7 h)
    ·exact h
    ·exact absurd he.symm (hp k q b7 fC h)
   have mem:∀{q d},l[q]?=some d→(d,q)∈l.zipIdx:=fun h=>List.mem_zipIdx_iff_getElem?.2 h
   refine ⟨Be,pS,⟨o1,fun q hq=>aB _ (bP q hq),inj,?_,?_,?_,?_,?_,Nat.sub_le _ _,?_,?_⟩,?_⟩
   ·intro j hj
    have oS:j∈perm:=by
     apply Classical.byContradiction
     intro cU
     have oW:perm ⊆ (List.range ops.size).erase j:=by
      intro x hx
      have Nz:x≠j:=by rintro rfl;exact cU hx
      rw [List.mem_erase_of_ne Nz]
      exact List.mem_range.2 (aB x hx)
     have:=F8 ng oW
     rw [List.length_erase_of_mem (List.mem_range.2 hj),List.length_range] at this
     omega
    obtain ⟨q,hq,e⟩:=List.mem_iff_getElem.1 oS
    exact ⟨q,by omega,by rw [List.getD_eq_getElem?_getD,List.getElem?_eq_getElem hq,Option.getD_some,e]⟩
   ·intro q o d ho hd
    have nV:q<ops.size:=by rw [←o1];exact (List.getElem?_eq_some_iff.1 hd).1
    have fC:q<perm.length:=by omega
    have p5:=aaK (l:=mi ios (ik (ops.toList.map eD) [])) (fl:=Mb (mi ios (ik (ops.toList.map eD) []))) (p0:=perm) (perm:=perm) (fun i hi=>by rw [hz];exact aB i hi) q
    have kU:=hl
    unfold aaJ at kU
    rw [kU,hd] at p5
    rw [List.getElem?_eq_getElem fC] at p5
    simp only [Option.bind_some] at p5
    have Fx:perm.getD q 0=perm[q]:=by rw [List.getD_eq_getElem?_getD,List.getElem?_eq_getElem fC];rfl
    rw [Fx] at ho
    cases NA:(mi ios (ik (ops.toList.map eD) []))[perm[q]]? with
    | none=>rw [NA] at p5;cases p5
    | some dz=>
     rw [NA] at p5
     simp only [Option.map_some,Option.some.injEq] at p5
     have hx:=(z2 _ _ NA).1
     have kr:=g2 _ o dz.op (by simpa using ho) hx
     obtain ⟨c1,c2,c3,c4,c5⟩:=AB kr
     have aup:∀a,dz.op.op≠ .e (.fl a):=by
      intro a e
      rw [e] at c3
      exact apP c3
     refine ⟨dz.op,kr,?_⟩
     have plain:d.op=dz.op→dz.op.dst=d.op.dst∧dz.op.guard=d.op.guard∧tmpsOf dz.op.op.fR=tmpsOf d.op.op.fR∧((gy d=false∧dz.op.op=d.op.op)∨∃a,dz.op.op=.e a.Cj∧d.op.op=.e (.fl a)∧d.op.guard=none):=by
      intro e
      refine ⟨by rw [e],by rw [e],by rw [e],.inl ⟨?_,by rw [e]⟩⟩
      cases hf:gy d with
      | false=>rfl
      | true=>
       obtain ⟨a,ha⟩:=wK.1 hf
       rw [e] at ha
       exact absurd ha (aup a)
     by_cases pW:(Mb (mi ios (ik (ops.toList.map eD) []))).contains perm[q]=true
     ·rw [if_pos pW] at p5
      have ra:d.op=AP dz.op:=by rw [p5]
      unfold AP at ra
      split at ra
      ·rename_i eo he hg
       split at ra
       ·rename_i a ha
        refine ⟨by rw [ra],by rw [ra,hg],?_,.inr ⟨a,by rw [he,ahD ha],by rw [ra],by rw [ra]⟩⟩
        rw [ra,he,←ahD ha]
        cases a <;> rfl
       ·exact plain ra
      ·exact plain ra
     ·rw [if_neg pW] at p5
      exact plain (by rw [p5])
   ·intro q d hd k hk
    have h1:=o7 (d,q) (mem hd)
    rw [List.all_eq_true] at h1
    have:=h1 k (List.mem_range.2 hk)
    simpa using this
   ·intro j e he
    by_cases hj:j<ops.size
    ·have hg:ops.toList[j]?=some ops[j]:=by simp [hj]
     have:(ops.toList.map eD).getD j []=eD ops[j]:=by simp [List.getD,hj]
     rw [this] at he
     have:=Dc pS j ops[j] hg e he
     omega
    ·have:(ops.toList.map eD).getD j []=[]:=by simp [List.getD,Nat.le_of_not_lt hj]
     rw [this] at he
     simp at he
   ·intro i j oi oj hi hj
    have h1:=o5 (oj,j) (mem hj)
    rw [List.all_eq_true] at h1
    exact h1 (oi,i) (mem hi)
   ·intro q d hd hq hE
    have h1:=o6 (d,q) (mem hd)
    simp only at h1
    rw [if_pos hq,hE] at h1
    simpa using h1
   ·intro q d hd hq
    have h1:=o6 (d,q) (mem hd)
    simp only at h1
    rw [if_neg (by omega)] at h1
    simpa using h1
   ·intro q d hd hf
    have h1:=o8 (d,q) (mem hd)
    simp only [hf,Bool.not_true,Bool.false_or,Option.isNone_iff_eq_none] at h1
    exact h1
  ·cases hc
 ·cases hc

theorem asS {out:Bool} {id:Nat} {ops:Array Oper} {l:List cD} {perm:List Nat} {K:(Nat→Value)→ae→Prop} {f:Nat→Value} {h:ae} (hc:Ex P N ops=some (l,perm)) (hi:jD P l 0 [] [] K f h):
  ∃f' h',fE P N out (.region id ops true) f h .normal f' h'∧K f' h':=by
 obtain ⟨Be,pS,L,kT⟩:=apO hc
 obtain ⟨F,H,V,f1,f2,f3,T,_,_⟩:=NN hi
 simp only [Nat.zero_add] at f3
 refine ⟨F l.length,H l.length,?_,f3⟩
 intro S hS B ρ a w R
 refine wpIn_region_draw ?_
 intro t
 have Np:Region.schedule (P.follows .mixedOrders) ops t=Region.linearise .any ops t:=by
  unfold Region.schedule
  rw [Be]
  simp
 rw [Np]
 have bQ:=aaN pS t
 have Bg:∀(l:List cD) (i:Nat) (f:Nat→Value),dG V [] l i f=f:=by
  intro l
  induction l with
  | nil=>intro i f;rfl
  | cons a l ih=>intro i f;simp [dG,ih]
 obtain ⟨os,gv⟩:=tU L kT T (k:=0) (rb l) (by omega)
 rw [Nat.zero_add] at gv
 have R0:Rel P N B ρ f h a { w with drawn:=w.drawn+1 }:=R.mono (Tr.drew R.heap _) (R.heap.drew _)
 have E3:H 0=h:=f2
 have TG:Tr ρ (H 0) w ρ (H (rb l)) { w with drawn:=w.drawn+1 }:=by
  rw [gv,E3]
  exact (Tr.drew R.heap _).trans (Tr.EU R0.heap os)
 have R1:Rel P N B ρ (dG V [] l 0 (F 0)) (H (rb l)) a { w with drawn:=w.drawn+1 }:=by
  rw [Bg,f1,gv,E3]
  exact R0.mono (Tr.EU R0.heap os) (R0.heap.EU os)
 refine ap2 L kT T bQ (fun j e hj=>by simp at hj) (fun i hi=>by simp at hi) [] (fun q=>by simp) (rb l) (Nat.le_refl _) L.head (fun e oe he _ hf=>?_) S B ρ a _ R1 (Nat.le_refl _) ?_ TG _ ?_
 ·constructor
  ·intro h;simp at h
  ·intro aB
   -- an effect at fS head is a float
   rename_i hE
   rw [L.low e oe he aB hE] at hf
   cases hf
 ·intro q d hq hf _
  obtain ⟨a',vJ⟩:=wK.1 hf
  obtain ⟨_,oo,g1,g2,g3,_,g5,_⟩:=yf T hq vJ (kT q d hq hf)
  have hqm:q<rb l:=by
   apply Classical.byContradiction
   intro h'
   rw [L.high q d hq (by omega)] at hf
   cases hf
  constructor
  ·obtain ⟨os',Bk⟩:=tU L kT T (k:=0) q (by omega)
   rw [Nat.zero_add,E3] at Bk
   cases hr:ρ (H q).length with
   | none=>rfl
   | some r=>
    have:=R.heap.lt hr
    rw [Bk] at this
    simp at this
    omega
  ·obtain ⟨os',Bk⟩:=tU L kT T (k:=q+1) (rb l-(q+1)) (by omega)
   rw [show q+1+(rb l-(q+1))=rb l by omega] at Bk
   rw [Bk]
   have gu:=KL g1 (H q).length
   rw [←g2] at gu
   unfold ee
   rw [gu]
   simp only [Option.bind_some]
   rw [List.getElem?_append_left (by rw [g3];simp)]
 ·intro ar a' w' R' T'
  refine ⟨rfl,ar,R',?_⟩
  rw [E3] at T'
  exact T'

theorem aaj {out:Bool} {id:Nat} {ops:Array Oper} {l:List cD} {K:(Nat→Value)→ae→Prop} {f:Nat→Value} {h:ae} (hc:Ly P N ops=some l) (hi:jD P l 0 [] [] K f h):
  ∃f' h',fE P N out (.region id ops true) f h .normal f' h'∧K f' h':=by
 unfold Ly at hc
 split at hc
 ·rename_i l' hl
  simp at hc;subst hc
  exact asT hl hi
 ·rw [Option.map_eq_some_iff] at hc
  obtain ⟨⟨l',perm⟩,hl,rfl⟩:=hc
  exact asS hl hi

end
end Go.Sim


namespace Go.Sim

section
variable {P : Program} {N : Nat}

theorem Gb (f:Nat→Value) (ks ls:List Nat) (xs:List Value) (h:xs=ls.map f):qF (jc (ks++ls) (ks.map f++xs)) f:=by
 subst h
 rw [←List.map_append]
 exact BO f (ks++ls)

theorem NY {out:Bool}:∀{c:Code} {hs df:Hints} {ic:dT},eC P N c hs=some (ic,df)→(out=true∨gh c=true)→∀{K:Exit→(Nat→Value)→ae→Prop} {f:Nat→Value} {h:ae},gN P ic K f h→
  ∃e f' h',fE P N out c f h e f' h'∧K e f' h':=by
 intro c
 induction c with
 | skip=>
  intro hs df ic hc ho K f h hi
  simp [eC] at hc
  obtain ⟨rfl,_⟩:=hc
  exact ⟨.normal,f,h,fun S hS B ρ a w R=>wpIn_skip ⟨rfl,ρ,R,Tr.refl R.heap⟩,hi⟩
 | region id ops draw=>
  intro hs df ic hc ho K f h hi
  cases draw with
  | true=>
   simp only [eC] at hc
   split at hc
   ·rename_i l hl
    split at hc
    ·rename_i sm
     simp at hc
     obtain ⟨rfl,_⟩:=hc
     have gL:=YA (X4 sm) hi
     rw [EC] at gL
     obtain ⟨f',h',r1,r2⟩:=aaj (id:=id) hl gL
     exact ⟨.normal,f',h',r1,r2⟩
    ·cases hc
   ·cases hc
  | false=>
   simp only [eC] at hc
   split at hc
   ·rename_i l hl
    split at hc
    ·rename_i sm
     simp only [Option.some.injEq] at hc
     have he:ic=(ow (qW l) hs).1:=by rw [hc]
     subst he
     obtain ⟨f',h',r1,r2⟩:=ayb (i:=0) (os:=ops.toList) (ops:=ops) (fun k o hk=>by simpa using hk) (by rw [EP];exact hl) (aaL sm) hi
     refine ⟨.normal,f',h',fE.region ?_,r2⟩
     rw [List.range_eq_range']
     simpa using r1
    ·cases hc
   ·simp at hc
    obtain ⟨rfl,_⟩:=hc
    exact (show False from hi).elim
 | seq x y wH wI=>
  intro hs df ic hc ho K f h hi
  have wh:out=true∨gh x=true:=ho.imp id fun h=>by simp only [gh,Bool.and_eq_true] at h;exact h.1
  have wj:out=true∨gh y=true:=ho.imp id fun h=>by simp only [gh,Bool.and_eq_true] at h;exact h.2
  have both:∀{a b:dT} {h0 hO iz:Hints} {ls:List Nat},eC P N x hs=some (a,h0)→eC P N y hO=some (b,iz)→gN P (.seq a (tF ls b)) K f h→∃e f' h',fE P N out (.seq x y) f h e f' h'∧K e f' h':=by
   intro a b h0 hO iz ls ha hb hi
   obtain ⟨e,cE,h₁,r1,r2⟩:=wH ha wh hi
   by_cases he:e=.normal
   ·subst he
    obtain ⟨Mf,hw,r3⟩:=XU r2
    obtain ⟨e',arl,FE,s1,s2⟩:=wI hb wj r3
    exact ⟨e',arl,FE,r1.seq (s1.weaken hw),s2⟩
   ·refine ⟨e,cE,h₁,r1.ayY he,?_⟩
    cases e <;> first | exact absurd rfl he | exact r2
  simp only [eC] at hc
  split at hc
  ·rename_i a h0 hO ha
   split at hc
   ·rename_i b iz hb
    simp at hc
    obtain ⟨rfl,_⟩:=hc
    exact both ha hb hi
   ·cases hc
  ·rename_i a ha
   split at hc
   ·rename_i b iz hb
    simp at hc
    obtain ⟨rfl,_⟩:=hc
    exact both (ls:=[]) ha hb hi
   ·cases hc
  ·cases hc
 | cond c x y wH wI=>
  intro hs df ic hc ho K f h hi
  have wh:out=true∨gh x=true:=ho.imp id fun h=>by simp only [gh,Bool.and_eq_true] at h;exact h.1
  have wj:out=true∨gh y=true:=ho.imp id fun h=>by simp only [gh,Bool.and_eq_true] at h;exact h.2
  simp only [eC] at hc
  split at hc
  ·rename_i aA
   split at hc
   ·rename_i a hO ha
    split at hc
    ·rename_i b iz hb
     simp at hc
     obtain ⟨rfl,_⟩:=hc
     rw [aaz] at hi
     simp only [mX] at hi
     split at hi
     ·rename_i t ht
      cases t
      ·simp at hi
       obtain ⟨e,cE,h₁,r1,r2⟩:=wI hb wj hi
       exact ⟨e,cE,h₁,fE.cond aA ht (by simpa using r1),r2⟩
      ·simp at hi
       obtain ⟨e,cE,h₁,r1,r2⟩:=wH ha wh hi
       exact ⟨e,cE,h₁,fE.cond aA ht (by simpa using r1),r2⟩
     ·exact hi.elim
    ·cases hc
   ·cases hc
  ·cases hc
 | block id c ih=>
  intro hs df ic hc ho K f h hi
  simp only [eC] at hc
  split at hc
  ·rename_i a hO ha
   simp at hc
   obtain ⟨rfl,_⟩:=hc
   obtain ⟨e,cE,h₁,r1,r2⟩:=ih ha (ho.imp (fun h=>h) fun h=>h) hi
   refine ⟨_,cE,h₁,r1.block,?_⟩
   cases e with
   | exit i=>
    simp only [bz] at r2⊢
    split <;> rename_i h
    ·rw [if_pos h] at r2;exact r2
    ·rw [if_neg h] at r2;exact r2
   | _=>exact r2
  ·cases hc
 | loop c ih=>
  intro hs df ic hc ho K f h hi
  simp only [eC] at hc
  split at hc
  ·rename_i ks ls hO
   split at hc
   ·rename_i a iz ha
    simp at hc
    obtain ⟨rfl,_⟩:=hc
    obtain ⟨J,μ,h0,Nl⟩:=hi
    have key:∀(n:Nat) (xs:List Value) (hh:ae),μ xs hh=n→J xs hh→∃e f' h',nE P N out c (jc (ks++ls) (ks.map f++xs)) hh e f' h'∧K e f' h':=by
     intro n
     induction n using Nat.strongRecOn with
     | _ n qi=>
      intro xs hh hn hJ
      obtain ⟨e,cE,h₁,r1,r2⟩:=ih ha (ho.imp (fun h=>h) fun h=>h) (Nl xs hh hJ)
      by_cases he:e=.normal
      ·subst he
       obtain ⟨hk,Mv,aB⟩:=r2
       obtain ⟨e',f',h',s1,s2⟩:=qi (μ (ls.map cE) h₁) (by omega) (ls.map cE) h₁ rfl Mv
       refine ⟨e',f',h',nE.next r1 (s1.weaken ?_),s2⟩
       rw [←hk]
       exact Gb cE ks ls _ rfl
      ·refine ⟨e,cE,h₁,nE.leave he r1,?_⟩
       cases e <;> first | exact absurd rfl he | exact r2
    obtain ⟨e,f',h',s1,s2⟩:=key _ (ls.map f) h rfl h0
    exact ⟨e,f',h',(s1.weaken (Gb f ks ls _ rfl)).run,s2⟩
   ·cases hc
  ·cases hc
 | exit id=>
  intro hs df ic hc ho K f h hi
  simp [eC] at hc
  obtain ⟨rfl,_⟩:=hc
  exact ⟨.exit id,f,h,fun S hS B ρ a w R=>wpIn_exit ⟨rfl,ρ,R,Tr.refl R.heap⟩,hi⟩
 | ret=>
  intro hs df ic hc ho K f h hi
  simp [eC] at hc
  obtain ⟨rfl,_⟩:=hc
  exact ⟨.ret,f,h,fun S hS B ρ a w R=>wpIn_ret ⟨rfl,ρ,R,Tr.refl R.heap⟩,hi⟩
 | rangeFunc g ps iW body=>
  intro hs df ic hc ho K f h hi
  have ho:out=true:=ho.resolve_right (by simp [gh])
  subst ho
  simp only [eC] at hc
  split at hc
  ·rename_i ls hO
   split at hc
   ·rename_i hk
    simp at hc
    obtain ⟨rfl,_⟩:=hc
    simp only [Bool.and_eq_true] at hk
    obtain ⟨h',r1,r2⟩:=agX hk.1 hi
    exact ⟨.normal,f,h',r1,r2⟩
   ·cases hc
  ·cases hc
 | _=>intro hs df ic hc;simp [eC] at hc

end
end Go.Sim


namespace Go.Sim

section
variable {P : Program} {ρ : aI} {h : ae} {w : World}

def zw:List Tmp→List Value→(Nat→Value)→Nat→Value
 | p::ps,v::vs,f=>zw ps vs (uD f p v)
 | _,_,f=>f

theorem afP {N:Nat}:∀{ps:List Tmp} {args args':List Value} {f:Nat→Value} {tmps:Array Value},bn ρ args args'→(∀p∈ps,p<N)→tmps.size=N→(∀t,av ρ (f t) (tmps.getD t Go.undef))→
  ((ps.zip args').foldl (fun (t:Array Value) (p,v)=>t.setIfInBounds p v) tmps).size=N∧
   ∀t,av ρ (zw ps args f t) (((ps.zip args').foldl (fun (t:Array Value) (p,v)=>t.setIfInBounds p v) tmps).getD t Go.undef)
 | [],args,args',f,tmps,_,_,hs,hf=>⟨hs,hf⟩
 | p::ps,_,_,f,tmps,.nil,_,hs,hf=>⟨hs,hf⟩
 | p::ps,_,_,f,tmps,.cons (x:=x) (y:=y) ha hr,hp,hs,hf=>by
  simp only [List.zip_cons_cons,List.foldl_cons,zw]
  refine afP hr (fun q hq=>hp q (by simp [hq])) (by simpa using hs) ?_
  intro t
  simp only [qD]
  by_cases ht:t=p
  ·subst ht
   have:t<tmps.size:=by rw [hs];exact hp t (by simp)
   simp [Array.getD,this]
   exact ha
  ·rw [if_neg ht]
   have e:(tmps.setIfInBounds p y).getD t Go.undef=tmps.getD t Go.undef:=by
    simp only [Array.getD_eq_getD_getElem?,Array.getElem?_setIfInBounds]
    rw [if_neg (by omega)]
   rw [e]
   exact hf t

theorem marks.put {B:Nat} {l:Nat} {o:Obj}:∀{ds:List Deferred},(∀d∈ds,d≠mark l)→marks B ds w→marks B ds (w.putObj l o)
 | [],_,h=>by simpa [marks] using h
 | d::ds,br,⟨⟨D,h1,h2,h3,h4⟩,h5⟩=>by
  refine ⟨⟨D,h1,h2,?_,h4⟩,marks.put (fun d hd=>br d (by simp [hd])) h5⟩
  rw [xc]
  ·exact h3
  ·rintro rfl
   exact br d (by simp) h1

theorem marks.ne {B l:Nat} {rec:Loop} (hl:w.heap[l]?=some (.loop rec)):∀{ds:List Deferred},marks B ds w→∀d∈ds,d≠mark l
 | [],_,d,hd=>by simp at hd
 | d::ds,⟨⟨D,h1,h2,h3,h4⟩,h5⟩,d',hd=>by
  rcases List.mem_cons.1 hd with rfl | hd
  ·rintro e
   rw [h1] at e
   obtain rfl:=aa0 e
   rw [hl] at h3
   cases h3
  ·exact marks.ne hl h5 d' hd

theorem abk {ar:aI} {h':ae} {w':World} (H':aU P ar h' w') (T:Tr ρ h w ar h' w') {l:Nat} {rec:Loop} (aB:l<w.heap.size) (hl:w'.heap[l]?=some (.loop rec))
  (no:∀j s,ρ j=some s→s.bm=l→¬ca h j):∀j s,ar j=some s→s.bm=l→¬isLive h' j:=by
 intro j s hj hs hv
 obtain ⟨c,ls,vs,hc⟩:=H'.aav hl hj hs hv
 cases hr:ρ j with
 | some s'=>
  have:=T.ext j s' hr
  rw [hj] at this
  cases this
  exact no j s hr hs (T.kinds j (T.il j s hr) (.inr (.inr (.inl ⟨_,_,_,hc⟩))))
 | none=>
  obtain ⟨_,q⟩:=T.fresh j s hj hr
  rcases q with q | ⟨j',s',q1,q2,q3⟩
  ·omega
  ·exact no j' s' q1 (q2.trans hs) q3

theorem aU.Hd (H:aU P ρ h w) {i:Nat} {r:RI} {o:ak} {x:Obj} (hi:ρ i=some r) (no:∀j s,ρ j=some s→s.bm=r.bm→¬isLive h j) (ho:jF ρ (w.putObj r.bm x) r o):
  aU P ρ (h.set i o) (w.putObj r.bm x):=by
 have aB:=H.lt hi
 have ml:∀j,j≠i→ca (h.set i o) j→ca h j:=by
  intro j e hm
  unfold ca at hm⊢
  rw [List.getElem?_set_ne (Ne.symm e)] at hm
  exact hm
 have ll:∀j,j≠i→isLive (h.set i o) j→isLive h j:=by
  intro j e hm
  unfold isLive at hm⊢
  rw [List.getElem?_set_ne (Ne.symm e)] at hm
  exact hm
 refine ⟨?_,?_,H.aV⟩
 ·intro j s hj
  by_cases e:j=i
  ·subst e
   rw [hi] at hj
   cases hj
   exact ⟨o,by rw [List.getElem?_set_self aB],ho⟩
  ·obtain ⟨o',c9,hr⟩:=H.obj j s hj
   refine ⟨o',by rw [List.getElem?_set_ne (Ne.symm e)];exact c9,?_⟩
   by_cases hd:o'=.dead
   ·subst hd;trivial
   ·refine hr.mono (.refl _) (xc ?_)
    intro e'
    exact no j s hj e' ⟨o',c9,hd⟩
 ·intro a b s t ha hb dD hm hl
  by_cases ea:a=i <;> by_cases eb:b=i
  ·omega
  ·subst ea
   rw [hi] at ha;cases ha
   exact absurd (ll b eb hl) (no b t hb dD.symm)
  ·subst eb
   rw [hi] at hb;cases hb
   exact absurd (ml a ea hm).live (no a s ha dD)
  ·exact H.inj a b s t ha hb dD (ml a ea hm) (ll b eb hl)

theorem Tr.Hd {ar:aI} {h':ae} {w':World} {i:Nat} (hm:ca h i) (T:Tr ρ (h.set i .dead) w ar h' w') (o:ak):Tr ρ h w ar (h'.set i o) w':=by
 have ml:∀j,ca (h.set i .dead) j→ca h j:=by
  intro j hj
  by_cases e:j=i
  ·subst e;exact hm
  ·unfold ca at hj⊢
   rw [List.getElem?_set_ne (Ne.symm e)] at hj
   exact hj
 exact {
  ext:=T.ext
  len:=by simpa using T.len
  il:=fun j s hj=>by simpa using T.il j s hj
  kinds:=by
   intro j hj vZ
   by_cases e:j=i
   ·subst e;exact hm
   ·refine ml j (T.kinds j (by simpa using hj) ?_)
    unfold ca at vZ⊢
    rw [List.getElem?_set_ne (Ne.symm e)] at vZ
    exact vZ
  fresh:=by
   intro j s h1 h2
   obtain ⟨q1,q2⟩:=T.fresh j s h1 h2
   refine ⟨by simpa using q1,q2.imp (fun h=>h) ?_⟩
   rintro ⟨j',s',a,b,c⟩
   exact ⟨j',s',a,b,ml j' c⟩
  gE:=T.gE
  fT:=fun k hk cU=>T.fT k hk fun j s hj hs Zw=>cU j s hj hs (ml j Zw)
  os:=T.os
  tape:=T.tape
  output:=T.output }

theorem Tr.afU {i:Nat} {r:RI} (hd:∀j s,ρ j=some s→j<h.length) (hi:ρ i=some r) {h₁:ae} (hl:h₁.length=h.length) (hm:ca h₁ i) (x:Obj):Tr ρ h₁ w ρ h₁ (w.putObj r.bm x) where
 ext:=.refl _
 len:=Nat.le_refl _
 il:=fun j s hj=>by rw [hl];exact hd j s hj
 kinds:=fun _ _ h=>h
 fresh:=fun j s h1 h2=>by rw [h1] at h2;cases h2
 gE:=by rw [World.putObj_size];exact Nat.le_refl _
 fT:=fun k hk cU=>xc fun e=>cU i r hi e.symm hm
 os:=rfl
 tape:=rfl
 output:=rfl

theorem ay4 {h:ae} {i:Nat} {o:ak} (hi:h[i]?=some o):h.set i o=h:=by
 apply List.ext_getElem?
 intro j
 by_cases e:j=i
 ·subst e
  rw [List.getElem?_set_self (List.getElem?_eq_some_iff.1 hi).1,hi]
 ·rw [List.getElem?_set_ne (Ne.symm e)]

theorem aAl {i:Nat} {c:Ae} {ls:List Nat} {vs args:List Value} {ia ib:dT} {hO iz ass ast:Hints} {K:Value→ae→Prop} (hi:h[i]?=some (.loop c ls vs)) (hn:args.length=c.ps.size)
  (yF:c.ps.all (·<c.N)=true) (ha:eC P c.N c.iW hO=some (ia,ass)) (hb:eC P c.N c.body iz=some (ib,ast)) (na:gh c.iW=true) (nb:gh c.body=true)
  (hw:gN P ia (fun e f1 h1=>e=.normal∧h1[i]?=some .dead∧gN P ib (fun e _ h2=>e=.normal∧h2[i]?=some .dead∧K (.bool true) (h2.set i (.loop c ls vs))) f1 h1) (zw c.ps.toList args (jc ls vs)) (h.set i .dead)):
  BC P i args h K:=by
 obtain ⟨e1,f1,h1,r1,rfl,d1,nj⟩:=NY (out:=false) ha (.inr na) hw
 obtain ⟨e2,f2,h2,r2,rfl,d2,hk⟩:=NY (out:=false) hb (.inr nb) nj
 refine ⟨.bool true,h2.set i (.loop c ls vs),?_,hk⟩
 intro ρ r args' w gV pR H
 have Zv:ca h i:=.inr (.inr (.inl ⟨_,_,_,hi⟩))
 obtain ⟨o,ho,oU⟩:=H.obj i r gV
 rw [hi] at ho
 cases ho
 obtain ⟨rec,g1,g2,g3,g4,g5,g6,g7,g8⟩:=oU
 have aB:=(Array.getElem?_eq_some_iff.1 g1).1
 have jC:args'.size=rec.params.size:=by
  have:=pR.length
  rw [g6,←hn,this]
  simp
 refine ⟨rec.fn,_,rec.assign,rec.body,run_yield g1 jC,?_⟩
 rw [g4,g5]
 have A7:(rec.params.zip args').foldl (fun (t:Array Value) (p,v)=>t.setIfInBounds p v) rec.tmps=(c.ps.toList.zip args'.toList).foldl (fun (t:Array Value) (p,v)=>t.setIfInBounds p v) rec.tmps:=by
  rw [g6,←Array.toList_zip,Array.foldl_toList]
 obtain ⟨p1,p2⟩:=afP (N:=c.N) (ps:=c.ps.toList) (f:=jc ls vs) (tmps:=rec.tmps) pR (by
  intro p hp
  rw [Array.all_eq_true'] at yF
  exact of_decide_eq_true (yF p (by simpa using hp))) g7 g8
 have R0:Rel P c.N w.heap.size ρ (zw c.ps.toList args (jc ls vs)) (h.set i .dead) { tmps:=(rec.params.zip args').foldl (fun (t:Array Value) (p,v)=>t.setIfInBounds p v) rec.tmps,defers:=[] } w:=
  ⟨by rw [A7];exact p1,Nat.le_refl _,fun t=>by rw [A7];exact p2 t,H.kill i⟩
 refine roundIn_of_wpIn (F:=Fence.wide) trivial ?_
 refine wpIn_mono (r1 (some r.bm) (fun h=>by cases h) _ ρ _ w R0) ?_
 rintro e a1 w1 ⟨rfl,oB,R1,T1⟩
 have u1:∀j s,ρ j=some s→s.bm=r.bm→¬ca (h.set i .dead) j:=by
  intro j s hj hs hm
  by_cases e:j=i
  ·subst e
   unfold ca at hm
   rw [List.getElem?_set_self (H.lt gV)] at hm
   rcases hm with ⟨_,_,h1⟩ | ⟨_,h1⟩ | ⟨_,_,_,h1⟩ | ⟨_,_,h1⟩ | ⟨_,_,_,h1⟩ | ⟨_,_,_,_,h1⟩ <;> cases h1
  ·refine e (H.inj j i s r hj gV hs ?_ Zv.live)
   unfold ca at hm⊢
   rw [List.getElem?_set_ne (Ne.symm e)] at hm
   exact hm
 have l1:w1.heap[r.bm]?=some (.loop rec):=(T1.fT _ aB u1).trans g1
 have Fp:=(Array.getElem?_eq_some_iff.1 l1).1
 refine ⟨_,run_beginRound l1 g2,?_⟩
 have Ot:=abk R1.heap T1 aB l1 u1
 have l2:(w1.putObj r.bm (.loop { rec with state:=.busy })).heap[r.bm]?=some (.loop { rec with state:=.busy }):=World.putObj_heap_same Fp
 have R2:Rel P c.N w.heap.size oB f1 h1 a1 (w1.putObj r.bm (.loop { rec with state:=.busy })):=
  ⟨R1.size,marks.put (marks.ne l1 R1.defers) R1.defers,R1.tmp,R1.heap.put Ot _⟩
 refine wpIn_mono (r2 (some r.bm) (fun h=>by cases h) _ oB a1 _ R2) ?_
 rintro e a3 w3 ⟨rfl,Rl,R3,T3⟩
 have l3:w3.heap[r.bm]?=some (.loop { rec with state:=.busy }):=(T3.fT _ (by simpa using Fp) fun j s hj hs hm=>Ot j s hj hs hm.live).trans l2
 have no3:=abk R3.heap T3 (by simpa using Fp) l3 fun j s hj hs hm=>Ot j s hj hs hm.live
 have asn:({ ({ rec with state:=.busy }:Loop) with state:=if (none:Option Code).isNone then .ready else .done,pending:=none }:Loop)=rec:=by
  cases rec
  simp only at g2 g3
  subst g2
  subst g3
  rfl
 have he:=run_endRound (P:=P) none l3
 rw [asn] at he
 have NC:oB i=some r:=T1.ext _ _ gV
 have ND:Rl i=some r:=T3.ext _ _ NC
 have Zq:=(Array.getElem?_eq_some_iff.1 l3).1
 refine ⟨_,_,he,.bool true,Rl,rfl,.bool _,?_,?_⟩
 ·refine R3.heap.Hd ND no3 ⟨rec,World.putObj_heap_same Zq,g2,g3,g4,g5,g6,g7,fun t=>(g8 t).mono (T1.ext.trans T3.ext)⟩
 ·have m1:ca (h1.set i (.loop c ls vs)) i:=.inr (.inr (.inl ⟨c,ls,vs,List.getElem?_set_self (R1.heap.lt NC)⟩))
  have m3:ca (h2.set i (.loop c ls vs)) i:=.inr (.inr (.inl ⟨c,ls,vs,List.getElem?_set_self (R3.heap.lt ND)⟩))
  have A:=T1.Hd Zv (.loop c ls vs)
  have B:=Tr.afU (w:=w1) (fun j s hj=>R1.heap.lt hj) NC (h₁:=h1.set i (.loop c ls vs)) (by simp) m1 (.loop { rec with state:=.busy })
  have e1:(h1.set i (.loop c ls vs)).set i .dead=h1:=by rw [List.set_set,ay4 d1]
  have C:Tr oB (h1.set i (.loop c ls vs)) _ Rl (h2.set i (.loop c ls vs)) w3:=Tr.Hd m1 (by rw [e1];exact T3) _
  have D:=Tr.afU (w:=w3) (fun j s hj=>R3.heap.lt hj) ND (h₁:=h2.set i (.loop c ls vs)) (by simp) m3 (.loop rec)
  exact ((A.trans B).trans C).trans D

end
end Go.Sim


namespace Go.Sim

inductive jf where
 | tmp (t:Nat)
 | cell (agg:Bool) (n:Nat) (a:Nat)

def um (r:jf) (f:Nat→Value) (h:ae):Option Value:=
 match r with
 | .tmp t=>some (f t)
 | .cell agg n a=>af agg n h (f a)

def mK:List jf→(Nat→Value)→ae→Option (List Value)
 | [],_,_=>some []
 | r::rs,f,h=>match um r f h,mK rs f h with
  | some v,some vs=>some (v::vs)
  | _,_=>none

def pack:List Value→Value
 | [v]=>v
 | vs=>.tuple vs.toArray

def sV:List jf→(Nat→Value)→ae→(List Value→Prop)→Prop
 | [],_,_,k=>k []
 | .tmp t::rs,f,h,k=>sV rs f h fun vs=>k (f t::vs)
 | .cell agg n a::rs,f,h,k=>eK (af agg n h (f a)) fun v=>sV rs f h fun vs=>k (v::vs)

def Ha (rs:List jf) (K:Value→ae→Prop) (f:Nat→Value) (h:ae):Prop:=sV rs f h fun vs=>K (pack vs) h

theorem Hb:∀{rs:List jf} {f:Nat→Value} {h:ae} {k:List Value→Prop},sV rs f h k→∃vs,mK rs f h=some vs∧k vs
 | [],f,h,k,hr=>⟨[],rfl,hr⟩
 | .tmp t::rs,f,h,k,hr=>by
  obtain ⟨vs,h1,h2⟩:=Hb (rs:=rs) hr
  exact ⟨f t::vs,by simp [mK,um,h1],h2⟩
 | .cell agg n a::rs,f,h,k,hr=>by
  simp only [sV,eK] at hr
  split at hr
  ·rename_i v hv
   obtain ⟨vs,h1,h2⟩:=Hb (rs:=rs) hr
   exact ⟨v::vs,by simp [mK,um,h1,hv],h2⟩
  ·exact hr.elim

def KQ (rs:List jf) (K:Value→ae→Prop):Exit→(Nat→Value)→ae→Prop
 | .normal,f,h=>Ha rs K f h
 | .ret,f,h=>Ha rs K f h
 | _,_,_=>False

def bk (args:List Value):Nat→Value:=fun j=>args.getD j undef

def Ez (P:Program):ResultVar→Option jf
 | .tmp t=>some (.tmp t)
 | .cell a t=>
  match P.underlying t with
  | some d=>if gw P t&&(lV d||P.cellsOf t==1) then some (.cell (lV d) (P.cellsOf t) a) else none
  | none=>none

def xZ (P:Program):List ResultVar→Option (List jf)
 | []=>some []
 | r::rs=>match Ez P r,xZ P rs with
  | some x,some xs=>some (x::xs)
  | _,_=>none

def bp (P:Program) (F:FuncId) (hs:Hints):Option (Nat×dT×List jf):=
 match P.funcs[F]? with
 | some fn=>match fn.body with
  | some c=>match eC P fn.ntmps c hs,xZ P fn.results.toList with
   | some (ic,_),some rs=>some (fn.ntmps,ic,rs)
   | _,_=>none
  | none=>none
 | none=>none

def bw:Option (Nat×dT×List jf)→dT
 | some (_,c,_)=>c
 | none=>.skip
def dT.l:dT→dT
 | .seq a _=>a
 | .cut _ c=>c
 | .cond _ a _=>a
 | .block _ c=>c
 | .loop _ _ c=>c
 | c=>c
def dT.r:dT→dT
 | .seq _ b=>b
 | .cond _ _ b=>b
 | c=>c

section
variable {P : Program} {w : World} {ρ : aI} {h : ae}

def xh (tmps:Array Value):ResultVar→Sem Value
 | .tmp t=>pure (tmps.getD t Go.undef)
 | .cell b t=>do loadVar t (←asAddr (tmps.getD b Go.undef))

theorem ayi (fn:Func) (tmps:Array Value):results fn tmps=(do let vs ←fn.results.mapM (xh tmps);pure (if h:vs.size=1 then vs[0] else .tuple vs)):=by
 have e:(fun r:ResultVar=>(match r with
   | .tmp t=>(pure (tmps.getD t Go.undef):Sem Value)
   | .cell a t=>do loadVar t (←asAddr (tmps.getD a Go.undef))))=xh tmps:=by
  funext r
  cases r <;> rfl
 rw [←e]
 rfl

theorem ayX {N B:Nat} {f:Nat→Value} {a:Act} (R:Rel P N B ρ f h a w) {r:ResultVar} {x:jf} (hc:Ez P r=some x) {v:Value} (hv:um x f h=some v):
  ∃v',(xh a.tmps r).run P w=.ok v' w∧av ρ v v':=by
 cases r with
 | tmp t=>
  simp [Ez] at hc;subst hc
  simp [um] at hv;subst hv
  exact ⟨_,rfl,R.tmp t⟩
 | cell b t=>
  simp only [Ez] at hc
  split at hc
  ·rename_i d ht
   split at hc
   ·rename_i hk
    simp at hc;subst hc
    simp only [Bool.and_eq_true] at hk
    simp only [um] at hv
    obtain ⟨v',q1,q2⟩:=ag7 R.heap ht hk.1 hv (R.tmp b)
    refine ⟨v',?_,q2⟩
    have jR:=hv
    unfold af at jR
    split at jR
    ·rename_i i o hfb
     have:=R.tmp b
     rw [hfb] at this
     obtain ⟨r',_,e⟩:=this.B7
     simp only [xh]
     rw [e] at q1⊢
     simpa [Instr.loadAt,Instr.sureAddr,asAddr] using q1
    ·cases jR
   ·cases hc
  ·cases hc

theorem ahd {α β:Type} (g:α→Sem β) (w:World):∀{xs:List α} {ys:List β},(∀(k:Nat) (x:α),xs[k]?=some x→∃y,ys[k]?=some y∧(g x).run P w=.ok y w)→xs.length=ys.length→(xs.mapM g).run P w=.ok ys w
 | [],[],_,_=>rfl
 | x::xs,y::ys,h,hl=>by
  obtain ⟨y',h1,h2⟩:=h 0 x rfl
  simp at h1;subst h1
  have ih:=ahd g w (xs:=xs) (ys:=ys) (fun k a hk=>by simpa using h (k+1) a (by simpa using hk)) (by simpa using hl)
  simp only [List.mapM_cons,Sem.run_bind,h2,Result.andThen_ok,ih,Sem.run_pure]

theorem ahf {N B:Nat} {f:Nat→Value} {a:Act} (R:Rel P N B ρ f h a w):∀{l:List ResultVar} {rs:List jf} {vs:List Value},xZ P l=some rs→mK rs f h=some vs→
  ∃iB:List Value,bn ρ vs iB∧l.length=iB.length∧∀(k:Nat) (r:ResultVar),l[k]?=some r→∃y,iB[k]?=some y∧(xh a.tmps r).run P w=.ok y w
 | [],rs,vs,hc,hv=>by
  simp [xZ] at hc;subst hc
  simp [mK] at hv;subst hv
  exact ⟨[],.nil,rfl,fun k r hk=>by simp at hk⟩
 | r::l,rs,vs,hc,hv=>by
  simp only [xZ] at hc
  split at hc
  ·rename_i x xs h1 h2
   simp at hc;subst hc
   simp only [mK] at hv
   split at hv
   ·rename_i v vs h3 h4
    simp at hv;subst hv
    obtain ⟨v',q1,q2⟩:=ayX R h1 h3
    obtain ⟨iB,s1,s2,s3⟩:=ahf R h2 h4
    refine ⟨v'::iB,.cons q2 s1,by simp [s2],?_⟩
    intro k r' hk
    cases k with
    | zero=>simp at hk;subst hk;exact ⟨v',rfl,q1⟩
    | succ k=>simpa using s3 k r' (by simpa using hk)
   ·cases hv
  ·cases hc

theorem ahg {N B:Nat} {f:Nat→Value} {a:Act} (R:Rel P N B ρ f h a w) {fn:Func} {rs:List jf} {vs:List Value} (hc:xZ P fn.results.toList=some rs) (hv:mK rs f h=some vs):
  ∃v',(results fn a.tmps).run P w=.ok v' w∧av ρ (pack vs) v':=by
 obtain ⟨iB,h1,h2,h3⟩:=ahf R hc hv
 have hm:=ahd (P:=P) (xh a.tmps) w h3 h2
 have fH:(fn.results.mapM (xh a.tmps)).run P w=.ok iB.toArray w:=by
  rw [Array.mapM_eq_mapM_toList]
  simp only [Sem.run_map,hm,Result.andThen_ok]
 refine ⟨if h:iB.toArray.size=1 then iB.toArray[0] else .tuple iB.toArray,?_,?_⟩
 ·rw [ayi]
  simp only [Sem.run_bind,fH,Result.andThen_ok,Sem.run_pure]
 ·cases h1 with
  | nil=>simpa [pack] using av.pv (ρ:=ρ) .nil
  | cons a1 a2=>
   cases a2 with
   | nil=>simpa [pack] using a1
   | cons b1 b2=>simpa [pack] using av.pv (.cons a1 (.cons b1 b2))

theorem Yw {args:List Value} {args':Array Value} (hv:bn ρ args args'.toList) (N:Nat) (t:Nat):av ρ (bk args t) ((args'++Array.replicate (N-args'.size) Go.undef).getD t Go.undef):=by
 unfold bk
 have hl:=hv.length
 by_cases ht:t<args.length
 ·obtain ⟨y,hy,hr⟩:=hv.get (k:=t) (x:=args[t]) (List.getElem?_eq_getElem ht)
  have hs:t<args'.size:=by simpa using (by omega:t<args'.toList.length)
  have e1:args.getD t undef=args[t]:=by simp [List.getD,ht]
  rw [e1,Array.getD_eq_getD_getElem?,Array.getElem?_append_left hs]
  simp only [Array.getElem?_toList] at hy
  rw [hy]
  exact hr
 ·have e1:args.getD t undef=undef:=by simp [List.getD,Nat.le_of_not_lt ht]
  have e2:(args'++Array.replicate (N-args'.size) Go.undef).getD t Go.undef=undef:=by
   have hs:¬t<args'.size:=by simp at hl;omega
   rw [Array.getD_eq_getD_getElem?,Array.getElem?_append_right (by omega)]
   by_cases h2:t-args'.size<N-args'.size
   ·simp [h2]
   ·simp [h2]
  rw [e1,e2]
  exact av.undef _

theorem Tr.at0 {ar:aI} {h':ae} {w':World} (T:Tr ρ h w ar h' w') {l:Nat} (hl:w.heap.size≤l) (o:Obj):Tr ρ h w ar h' (w'.putObj l o) where
 ext:=T.ext
 len:=T.len
 il:=T.il
 kinds:=T.kinds
 fresh:=T.fresh
 gE:=by rw [World.putObj_size];exact T.gE
 fT:=fun k hk cU=>by rw [xc (by omega)];exact T.fT k hk cU
 os:=T.os
 tape:=T.tape
 output:=T.output

theorem N7 {ar:aI} {h':ae} {fn:Func} {tmps:Array Value} {Q:Ending→World→Prop}:∀{ds:List Deferred} {w':World},marks w.heap.size ds w'→aU P ar h' w'→Tr ρ h w ar h' w'→
  (∀iQ,aU P ar h' iQ→Tr ρ h w ar h' iQ→∃v,(results fn tmps).run P iQ=.ok v iQ∧Q (.returned v) iQ)→LeavesInM Fence.wide 0 P fn tmps Q ds .returning w'
 | [],w',_,H,T,hq=>hq w' H T
 | d::ds,w',⟨⟨D,h1,h2,h3,h4⟩,h5⟩,H,T,hq=>by
  refine ⟨by simp,.inl ⟨D,_,by rw [h1];rfl,run_takeDeferred h3,?_⟩⟩
  exact N7 (marks.put (fun d hd=>h4 d hd) h5) (H.put (fun j s hj hs=>H.Ov h3 hj hs) _) (T.at0 h2 _) hq

theorem aah {F:FuncId} {N:Nat} {ic:dT} {rs:List jf} {hs:Hints} (hc:bp P F hs=some (N,ic,rs)) {args:List Value} (ha:args.length≤N) {K:Value→ae→Prop}
  (hi:gN P ic (KQ rs K) (bk args) h):pe P F args h K:=by
 unfold bp at hc
 split at hc
 ·rename_i fn hf
  split at hc
  ·rename_i c hb
   split at hc
   ·rename_i ic' _ Qz h1 h2
    simp at hc
    obtain ⟨hN,rfl,rfl⟩:=hc
    obtain ⟨e,f',h',r1,r2⟩:=NY (out:=true) h1 (.inl rfl) hi
    have qe:(e=.normal∨e=.ret)∧Ha Qz K f' h':=by
     cases e <;> first | exact ⟨.inl rfl,r2⟩ | exact ⟨.inr rfl,r2⟩ | exact r2.elim
    obtain ⟨he,qe⟩:=qe
    obtain ⟨vs,ue,qe⟩:=Hb qe
    ·refine ⟨pack vs,h',?_,qe⟩
     intro ρ args' w hv H
     refine callsIn_wide.1 (callsIn_of_wp_marks (F:=Fence.wide) (n:=0) hf hb trivial ?_ rfl)
     have jC:args'.size=args.length:=by have:=hv.length;simpa using this.symm
     have R:Rel P fn.ntmps w.heap.size ρ (bk args) h { tmps:=args'++Array.replicate (fn.ntmps-args'.size) Go.undef,defers:=[] } w:=⟨by simp;omega,Nat.le_refl _,Yw hv fn.ntmps,H⟩
     refine wpIn_mono (r1 none (fun _=>rfl) _ ρ _ w R) ?_
     rintro e' a' w' ⟨rfl,ar,R',T⟩
     have key:LeavesInM Fence.wide 0 P fn a'.tmps (fun e w'=>∃v' ar,e=.returned v'∧av ar (pack vs) v'∧aU P ar h' w'∧Tr ρ h w ar h' w') a'.defers .returning w':=by
      refine N7 R'.defers R'.heap T ?_
      intro iQ z9 qM
      have mw:Rel P fn.ntmps 0 ar f' h' { a' with defers:=[] } iQ:=⟨R'.size,Nat.zero_le _,R'.tmp,z9⟩
      obtain ⟨v',q1,q2⟩:=ahg mw h2 ue
      exact ⟨v',q1,v',ar,rfl,q2,z9,qM⟩
     rcases he with rfl | rfl
     ·exact key
     ·exact key
   ·cases hc
  ·cases hc
 ·cases hc

theorem asQ {F:FuncId} {args:List Value} {h:ae} {v:Value} (hi:pe P F args h fun u _=>u=v) {ρ:aI} {args':Array Value} {w:World} (hv:bn ρ args args'.toList) (H:aU P ρ h w)
  (iM:∀i,¬ca h i):Calls P F args' w fun e w'=>(∃v' ar,e=.returned v'∧av ar v v')∧RowKit.Below w.heap.size w w':=by
 obtain ⟨u,h',hc,rfl⟩:=hi
 refine (hc ρ args' w hv H).mono ?_
 rintro e w' ⟨v',ar,rfl,h1,_,T⟩
 exact ⟨⟨v',ar,rfl,h1⟩,⟨T.os,T.tape,T.output,T.gE,fun k hk=>T.fT k hk fun j s _ _ hm=>iM j hm⟩⟩

end
end Go.Sim


namespace Go.Sim

abbrev VK:=Value→ae→Prop
abbrev LQ:=List Value→ae→Prop
abbrev gm (a n:Nat):gR:=⟨some a,.p (.mv (.tmp n))⟩
abbrev gd (a n m:Nat):iU:=⟨some a,.p (.mv (.tmp n)),m⟩
abbrev ci (n:Int):Operand:=.const (.int .i64 n)

inductive OP (o:Option Value) (K:Value→Prop):Prop | mk:eK o K→OP o K
inductive OH (o:Option (Value×ae)) (K:Value→ae→Prop):Prop | mk:lh o K→OH o K
inductive aL (c:Value) (a b:Prop):Prop | mk:mX c a b→aL c a b
inductive bU (v:Value) (b:Bool) (A B:Prop):Prop | mk:jg v b A B→bU v b A B
inductive au (Q:(Nat→Value)→ae→Prop) (ls:List Nat) (vs:List Value) (h:ae):Prop | mk:ya Q ls vs h→au Q ls vs h
inductive cB (init:List Value) (h:ae) (Q:(List Value→ae→Prop)→List Value→ae→Prop):Prop | mk:wT init h Q→cB init h Q
inductive aj (P:Program) (F:FuncId) (args:List Value) (h:ae) (K:Value→ae→Prop):Prop | mk:pe P F args h K→aj P F args h K
inductive uM (P:Program) (x:Value) (args:List Value) (h:ae) (K:Value→ae→Prop):Prop | mk:qO P x args h K→uM P x args h K

inductive xP (P:Program) (g:Value) (ls:List Nat) (vs:List Value) (c:Ae) (h:ae) (K:ae→Prop):Prop | mk:rA P g ls vs c h K→xP P g ls vs c h K

theorem TU:xP=rA:=funext fun _=>funext fun _=>funext fun _=>funext fun _=>funext fun _=>funext fun _=>funext fun _=>propext ⟨fun ⟨h⟩=>h,.mk⟩
theorem xO:OP=eK:=funext fun _=>funext fun _=>propext ⟨fun ⟨h⟩=>h,.mk⟩
theorem Ja:OH=lh:=funext fun _=>funext fun _=>propext ⟨fun ⟨h⟩=>h,.mk⟩
theorem Sc:aL=mX:=funext fun _=>funext fun _=>funext fun _=>propext ⟨fun ⟨h⟩=>h,.mk⟩
theorem Ip:bU=jg:=funext fun _=>funext fun _=>funext fun _=>funext fun _=>propext ⟨fun ⟨h⟩=>h,.mk⟩
theorem zZ:au=ya:=funext fun _=>funext fun _=>funext fun _=>funext fun _=>propext ⟨fun ⟨h⟩=>h,.mk⟩
theorem TQ:cB=wT:=funext fun _=>funext fun _=>funext fun _=>propext ⟨fun ⟨h⟩=>h,.mk⟩
theorem rJ:aj=pe:=funext fun _=>funext fun _=>funext fun _=>funext fun _=>funext fun _=>propext ⟨fun ⟨h⟩=>h,.mk⟩
theorem Im:uM=qO:=funext fun _=>funext fun _=>funext fun _=>funext fun _=>funext fun _=>propext ⟨fun ⟨h⟩=>h,.mk⟩

theorem ai6 (Q:(Nat→Value)→ae→Prop) (ls:List Nat) (vs:List Value) (h:ae):au Q ls vs h=Q (jc ls vs) h:=by
 rw [zZ]
 rfl

theorem aw {Q:(Nat→Value)→ae→Prop} {ls:List Nat} {vs:List Value} {h:ae} {A:Prop} (e:Q (jc ls vs) h=A):au Q ls vs h=A:=(ai6 _ _ _ _).trans e

def B8 (o:nG) (g:Operand→Value) (k:Value→Prop):Prop:=
 match o with
 | .mv x=>k (g x)
 | .FV n=>k (.int .i64 n)
 | .fn f a b=>k (.func (.func f) (a.map g).toArray (b.map g).toArray)
 | o=>OP (hX o g) k

theorem Qa (o:nG) (g:Operand→Value) (k:Value→Prop):B8 o g k=eK (hX o g) k:=by
 unfold B8
 split
 ·rfl
 ·rfl
 ·rfl
 ·rw [xO]

def Hy (P:Program) (o:fL) (f:Nat→Value) (h:ae) (K:Value→ae→Prop):Prop:=
 match o with
 | .p o=>B8 o (ev f) fun v=>K v h
 | .l o=>OP (eJ o (ev f) h) fun v=>K v h
 | .e o=>OH (fv o (ev f) h) K
 | .call g args=>aj P g (args.map (ev f)) h K
 | .jx x args=>uM P (ev f x) (args.map (ev f)) h K

theorem azn (P:Program) (o:fL) (f:Nat→Value) (h:ae) (K:Value→ae→Prop):Hy P o f h K=cL P o f h K:=by
 cases o <;> simp only [Hy,cL,Qa,xO,Ja,rJ,Im]

def AV (P:Program) (l:List gR) (K:(Nat→Value)→ae→Prop):(Nat→Value)→ae→Prop:=
 List.rec (motive:=fun _=>(Nat→Value)→ae→Prop) (fun f h=>K f h) (fun o _ ih f h=>Hy P o.op f h fun v h'=>ih (cX f o.dst v) h') l

theorem YH (P:Program) (l:List gR) (K:(Nat→Value)→ae→Prop):∀(f:Nat→Value) (h:ae),AV P l K f h=tO P l K f h:=by
 induction l with
 | nil=>intro f h;rfl
 | cons o os ih=>
  intro f h
  show Hy P o.op f h (fun v h'=>AV P os K (cX f o.dst v) h')=_
  rw [azn,tO]
  congr 1
  funext v h'
  exact ih _ _

def OF (P:Program) (g:Option (Nat×Bool)) (l:List gR) (K:(Nat→Value)→ae→Prop) (f:Nat→Value) (h:ae):Prop:=
 match g with
 | none=>AV P l K f h
 | some (s,b)=>bU (f s) b (AV P l K f h) (K (zJ l f) h)

theorem auE (P:Program) (g:Option (Nat×Bool)) (l:List gR) (K:(Nat→Value)→ae→Prop) (f:Nat→Value) (h:ae):OF P g l K f h=qw P g l K f h:=by
 unfold OF qw
 split <;> simp only [YH,Ip]

abbrev R9:=List (Nat×ae)→dN→Value→ae→Prop

def EG (P:Program) (io:fL) (pre j:Nat) (aK:List (Nat×ae)) (aG:dN) (f:Nat→Value) (h:ae) (next:R9):Prop:=
 match io with
 | .p po=>B8 po (ev f) fun v=>next aK aG v h
 | .l lo=>OP (eJ lo (ev f) h) fun v=>tD pre lo f v aK∧next aK (aG++[(j,lo,f,v)]) v h
 | .e (.fl a)=>OH (fv (.fl a) (ev f) h) fun v h'=>OP (ee h' v) fun u=>jK pre h' aG∧next (aK++[(j,h)]) (aG++[(j,.obj (.const v),f,u)]) v h'
 | .e eo=>OH (fv eo (ev f) h) fun v h'=>jK pre h' aG∧next (aK++[(j,h)]) aG v h'
 | .call g args=>aj P g (args.map (ev f)) h fun v h'=>jK pre h' aG∧next (aK++[(j,h)]) aG v h'
 | .jx x args=>uM P (ev f x) (args.map (ev f)) h fun v h'=>jK pre h' aG∧next (aK++[(j,h)]) aG v h'

theorem ap3 (P:Program) (io:fL) (pre j:Nat) (aK:List (Nat×ae)) (aG:dN) (f:Nat→Value) (h:ae) (next:R9):
  EG P io pre j aK aG f h next=jz P io pre j aK aG f h next:=by
 cases io with
 | e eo=>cases eo <;> simp only [EG,jz,xO,Ja]
 | _=>simp only [EG,jz,Qa,xO,rJ,Im]

abbrev R8:=List (Nat×ae)→dN→(Nat→Value)→ae→Prop

def AT (P:Program):List iU→Nat→List (Nat×ae)→dN→R8→(Nat→Value)→ae→Prop
 | [],_,aK,aG,K,f,h=>K aK aG f h
 | o::os,j,aK,aG,K,f,h=>EG P o.op o.pre j aK aG f h fun aK aG v h'=>AT P os (j+1) aK aG K (cX f o.dst v) h'

theorem Mj (P:Program):∀(l:List iU) (j:Nat) (aK:List (Nat×ae)) (aG:dN) (K:R8) (f:Nat→Value) (h:ae),AT P l j aK aG K f h=mE P l j aK aG K f h
 | [],_,_,_,_,_,_=>rfl
 | o::os,j,aK,aG,K,f,h=>by
  rw [AT,mE,ap3]
  congr 1
  funext aK aG v h'
  exact Mj P os _ _ _ _ _ _

def qV (P:Program):List (Option (Nat×Bool)×List iU)→Nat→List (Nat×ae)→dN→((Nat→Value)→ae→Prop)→(Nat→Value)→ae→Prop
 | [],_,_,_,K,f,h=>K f h
 | (none,l)::gs,j,aK,aG,K,f,h=>AT P l j aK aG (fun aK aG f h=>qV P gs (j+l.length) aK aG K f h) f h
 | (some (s,b),l)::gs,j,aK,aG,K,f,h=>
  bU (f s) b (AT P l j aK aG (fun aK aG f h=>qV P gs (j+l.length) aK aG K f h) f h)
   (rW l j aK aG (fun aK aG f h=>qV P gs (j+l.length) aK aG K f h) f h)

theorem EW (P:Program):∀(gs:List (Option (Nat×Bool)×List iU)) (j:Nat) (aK:List (Nat×ae)) (aG:dN) (K:(Nat→Value)→ae→Prop) (f:Nat→Value) (h:ae),
  qV P gs j aK aG K f h=lL P gs j aK aG K f h
 | [],_,_,_,_,_,_=>rfl
 | (none,l)::gs,j,aK,aG,K,f,h=>by
  have e:(fun aK aG f h=>qV P gs (j+l.length) aK aG K f h)=fun aK aG f h=>lL P gs (j+l.length) aK aG K f h:=by
   funext a b c d;exact EW P gs _ _ _ _ _ _
  rw [qV,lL,Mj,e]
 | (some (s,b),l)::gs,j,aK,aG,K,f,h=>by
  have e:(fun aK aG f h=>qV P gs (j+l.length) aK aG K f h)=fun aK aG f h=>lL P gs (j+l.length) aK aG K f h:=by
   funext a b c d;exact EW P gs _ _ _ _ _ _
  rw [qV,lL,Mj,e,Ip]

noncomputable def ai (P:Program) (c:dT):aq→(Nat→Value)→ae→Prop:=
 dT.rec (motive:=fun _=>aq→(Nat→Value)→ae→Prop)
  (fun K f h=>K .normal f h)
  (fun l K f h=>qV P l 0 [] [] (K .normal) f h)
  (fun g l K f h=>OF P g l (K .normal) f h)
  (fun _ _ ia ib K f h=>ia (aC (ib K) K) f h)
  (fun ls _ ic K f h=>au (ic K) ls (ls.map f) h)
  (fun c _ _ ia ib K f h=>aL (ev f c) (ia K f h) (ib K f h))
  (fun id _ ic K f h=>ic (bz id K) f h)
  (fun ks ls _ ic K f h=>cB (ls.map f) h fun L xs hx=>au (ic (aC (fun f' aR=>ks.map f'=ks.map f∧L (ls.map f') aR) K)) (ks++ls) (ks.map f++xs) hx)
  (fun id K f h=>K (.exit id) f h)
  (fun K f h=>K .ret f h)
  (fun g ls c K f h=>xP P (ev f g) ls (ls.map f) c h (K .normal f)) c

theorem atd (P:Program) (c:dT):ai P c=gN P c:=by
 induction c with
 | skip=>rfl
 | EF l=>funext K f h;exact EW P l 0 [] [] (K .normal) f h
 | ops g l=>funext K f h;exact auE P g l (K .normal) f h
 | seq a b pf qh=>
  funext K f h
  show ai P a (aC (ai P b K) K) f h=gN P a (aC (gN P b K) K) f h
  rw [pf,qh]
 | cut ls c ih=>
  funext K f h
  show au (ai P c K) ls (ls.map f) h=ya (gN P c K) ls (ls.map f) h
  rw [ih,zZ]
 | cond c a b pf qh=>
  funext K f h
  show aL (ev f c) (ai P a K f h) (ai P b K f h)=mX (ev f c) (gN P a K f h) (gN P b K f h)
  rw [pf,qh,Sc]
 | block id c ih=>
  funext K f h
  show ai P c (bz id K) f h=gN P c (bz id K) f h
  rw [ih]
 | loop ks ls c ih=>
  funext K f h
  show cB (ls.map f) h (fun L xs hx=>au (ai P c (aC (fun f' aR=>ks.map f'=ks.map f∧L (ls.map f') aR) K)) (ks++ls) (ks.map f++xs) hx)=
   wT (ls.map f) h (fun L xs hx=>gN P c (aC (fun f' aR=>ks.map f'=ks.map f∧L (ls.map f') aR) K) (jc (ks++ls) (ks.map f++xs)) hx)
  rw [ih,TQ,zZ]
  rfl
 | exit id=>rfl
 | ret=>rfl
 | range g ls c=>
  funext K f h
  show xP P (ev f g) ls (ls.map f) c h (K .normal f)=rA P (ev f g) ls (ls.map f) c h (K .normal f)
  rw [TU]

def zz:List jf→(Nat→Value)→ae→(List Value→Prop)→Prop
 | [],_,_,k=>k []
 | .tmp t::rs,f,h,k=>zz rs f h fun vs=>k (f t::vs)
 | .cell agg n a::rs,f,h,k=>OP (af agg n h (f a)) fun v=>zz rs f h fun vs=>k (v::vs)

theorem Qx:∀(rs:List jf) (f:Nat→Value) (h:ae) (k:List Value→Prop),zz rs f h k=sV rs f h k
 | [],_,_,_=>rfl
 | .tmp _::rs,f,h,k=>Qx rs f h _
 | .cell agg n a::rs,f,h,k=>by
  rw [zz,sV,xO]
  congr 1
  funext v
  exact Qx rs f h _

def aO (rs:List jf) (K:Value→ae→Prop):aq
 | .normal,f,h=>zz rs f h fun vs=>K (pack vs) h
 | .ret,f,h=>zz rs f h fun vs=>K (pack vs) h
 | _,_,_=>False

theorem Uk (rs:List jf) (K:Value→ae→Prop):aO rs K=KQ rs K:=by
 funext e f h
 cases e <;> first | rfl | exact Qx rs f h _

theorem bD {P:Program} {F:FuncId} {N:Nat} {ic:dT} {rs:List jf} {hs:Hints} {h:ae} (hc:bp P F hs=some (N,ic,rs)) {args:List Value} (ha:args.length≤N)
  {K:Value→ae→Prop} (hi:ai P ic (aO rs K) (bk args) h):aj P F args h K:=
 .mk (aah hc ha (by rw [←atd,←Uk];exact hi))

end Go.Sim


namespace Go.Sim

section azR
variable {A B : Prop} {K : Value → Prop} {K2 : Value → ae → Prop} {v : Value} {h : ae}

@[simp] theorem ag : OP (some v) K ↔ K v := ⟨fun ⟨h⟩ => h, fun h => .mk h⟩
@[simp] theorem aD : OH (some (v, h)) K2 ↔ K2 v h := ⟨fun ⟨h⟩ => h, fun h => .mk h⟩
theorem C5 {o:Option (Value×ae)} (ho:o=some (v,h)) (hk:K2 v h):OH o K2:=by rw [ho];exact aD.2 hk
@[simp] theorem dd : aL (.bool true) A B ↔ A := ⟨fun ⟨h⟩ => by simpa [mX] using h, fun h => .mk (by simpa [mX] using h)⟩
@[simp] theorem c7 : aL (.bool false) A B ↔ B := ⟨fun ⟨h⟩ => by simpa [mX] using h, fun h => .mk (by simpa [mX] using h)⟩
theorem xy {b:Bool} (h1:b=true→A) (h2:b=false→B):aL (.bool b) A B:=by cases b <;> simp [h1,h2]
@[simp] theorem bS {p : Prop} [Decidable p] : aL (.bool (decide p)) A B ↔ (p → A) ∧ (¬ p → B) := by by_cases hp : p <;> simp [hp]
@[simp] theorem CF {p : Prop} [Decidable p] : aL (.bool (!decide p)) A B ↔ (¬ p → A) ∧ (p → B) := by by_cases hp : p <;> simp [hp]
@[simp] theorem eO : bU (.bool true) true A B ↔ A := ⟨fun ⟨h⟩ => by simpa [jg] using h, fun h => .mk (by simpa [jg] using h)⟩
@[simp] theorem eY : bU (.bool true) false A B ↔ B := ⟨fun ⟨h⟩ => by simpa [jg] using h, fun h => .mk (by simpa [jg] using h)⟩
@[simp] theorem ie : bU (.bool false) true A B ↔ B := ⟨fun ⟨h⟩ => by simpa [jg] using h, fun h => .mk (by simpa [jg] using h)⟩
@[simp] theorem dF : bU (.bool false) false A B ↔ A := ⟨fun ⟨h⟩ => by simpa [jg] using h, fun h => .mk (by simpa [jg] using h)⟩
@[simp] theorem tm {b : Bool} : bU undef b A B ↔ B := ⟨fun ⟨h⟩ => by simpa [jg, undef] using h, fun h => .mk (by simpa [jg, undef] using h)⟩
@[simp] theorem dh (a b : Value) : bK (.bool true) a b = some a := rfl
@[simp] theorem cV (a b : Value) : bK (.bool false) a b = some b := rfl

theorem aj.mono {P:Program} {F:FuncId} {args:List Value} {K K':Value→ae→Prop} (hc:aj P F args h K) (hk:∀v h',K v h'→K' v h'):aj P F args h K':=by
 rw [rJ] at hc⊢
 exact hc.mono hk

end azR

abbrev I (n:Int):Value:=.int .i64 n
abbrev B (b:Bool):Value:=.bool b
abbrev cv (c:UInt8):Value:=.int .u8 (c.toNat:Int)
abbrev pt (i o:Nat):Value:=.pointer (some ⟨i,o,none⟩)

theorem wrap64 {n:Int} (h1: -9223372036854775808≤n) (h2:n<9223372036854775808):IntKind.wrap .i64 n=n:=by
 have e:IntKind.wrap .i64 n=if n%18446744073709551616≥9223372036854775808 then n%18446744073709551616-18446744073709551616 else n%18446744073709551616:=by
  simp [IntKind.wrap,IntKind.bits,IntKind.signed]
 rw [e]
 split <;> omega

theorem ahO {n:Int} (h1:0≤n) (h2:n<256):IntKind.wrap .u8 n=n:=by
 have e:IntKind.wrap .u8 n=n%256:=by
  simp [IntKind.wrap,IntKind.bits,IntKind.signed]
 rw [e]
 omega

section ints
variable (k : IntKind) (a b : Int)
@[simp] theorem cK : ah .lss (.int k a) (.int k b) = some (.bool (decide (a < b))) := by simp [ah, fY]
@[simp] theorem qN : ah .leq (.int k a) (.int k b) = some (.bool (decide (a ≤ b))) := by simp [ah, fY]
@[simp] theorem eT : ah .gtr (.int k a) (.int k b) = some (.bool (decide (b < a))) := by simp [ah, fY]
@[simp] theorem j5 : ah .geq (.int k a) (.int k b) = some (.bool (decide (b ≤ a))) := by simp [ah, fY]
@[simp] theorem fW : ah .eql (.int k a) (.int k b) = some (.bool (decide (a = b))) := by simp [ah, fY]
@[simp] theorem nI : ah .neq (.int k a) (.int k b) = some (.bool (!decide (a = b))) := by simp [ah, fY]
@[simp] theorem cC : ah .add (.int k a) (.int k b) = some (.int k (k.wrap (a + b))) := by simp [ah, fY]
@[simp] theorem eW : ah .sub (.int k a) (.int k b) = some (.int k (k.wrap (a - b))) := by simp [ah, fY]
@[simp] theorem tC : ah .mul (.int k a) (.int k b) = some (.int k (k.wrap (a * b))) := by simp [ah, fY]
@[simp] theorem nC (b : Bool) : ft .not (.bool b) = some (.bool !b) := rfl
@[simp] theorem aA0 : ft .neg (.int k a) = some (.int k (k.wrap (0 - a))) := rfl
@[simp] theorem jy (k' : IntKind) : cS k' (.int k a) = some (.int k' (k'.wrap a)) := rfl
@[simp] theorem AJ (n x y : Bool) : ri n (.bool x) (.bool y) = some (.bool (if n then !(x == y) else x == y)) := rfl
@[simp] theorem dY (i : Nat) (vs : Array Value) : b9 i (.tuple vs) = vs[i]? := rfl
end ints

section strings
variable (a b : List UInt8)
@[simp] theorem Un (l : List UInt8) : bytes ⟨l.toArray⟩ = l := amc l
@[simp] theorem jq : fe (S a) = some (I a.length) := by simp [fe, S]
@[simp] theorem Dd : ah .eql (S a) (S b) = some (.bool (decide (a = b))) := by simp [ah, wG, S]
@[simp] theorem Ui : ah .neq (S a) (S b) = some (.bool (!decide (a = b))) := by simp [ah, wG, S]
theorem u9 (h:a.length+b.length≤maxLen):ah .add (S a) (S b)=some (S (a++b)):=by
 simp only [ah,wG,S,Un,if_pos h]
theorem rj {i:Nat} (h:i<a.length) (k:IntKind):hT (S a) (.int k (i:Int))=some (cv a[i]):=by simp [hT,S,h]
theorem Hs {n:Nat} (h:n≤a.length) (k:IntKind):iZ (S a) none (some (.int k (n:Int)))=some (S (a.take n)):=by simp [iZ,S,pc,qp,h]
theorem zA {n:Nat} (h:n≤a.length) (k:IntKind):iZ (S a) (some (.int k (n:Int))) none=some (S (a.drop n)):=by simp [iZ,S,pc,qp,h]
end strings


theorem aua {σ:Type} {init:List Value} {h:ae} {Q:(List Value→ae→Prop)→List Value→ae→Prop} (enc:σ→List Value) (hp:σ→ae) (J:σ→Prop) (μ:σ→Nat) (s0:σ)
  (e0:enc s0=init) (eh:hp s0=h) (j0:J s0) (hr:∀s,J s→Q (fun ys hy=>∃s',enc s'=ys∧hp s'=hy∧J s'∧μ s'<μ s) (enc s) (hp s)):cB init h Q:=by
 refine .mk ?_
 have least:∀ys hy,(∃s,enc s=ys∧hp s=hy∧J s)→∃m,(∃s,enc s=ys∧hp s=hy∧J s∧μ s=m)∧∀s,enc s=ys→hp s=hy→J s→m≤μ s:=by
  rintro ys hy ⟨s,h1,h2,h3⟩
  have key:∀n,(∃s,enc s=ys∧hp s=hy∧J s∧μ s=n)→∃m,(∃s,enc s=ys∧hp s=hy∧J s∧μ s=m)∧∀s,enc s=ys→hp s=hy→J s→m≤μ s:=by
   intro n
   induction n using Nat.strongRecOn with
   | _ n ih=>
    intro hn
    by_cases aB:∃s,enc s=ys∧hp s=hy∧J s∧μ s<n
    ·obtain ⟨s',a,b,c,d⟩:=aB
     exact ih (μ s') d ⟨s',a,b,c,rfl⟩
    ·exact ⟨n,hn,fun s' a b c=>Nat.le_of_not_lt fun d=>aB ⟨s',a,b,c,d⟩⟩
  exact key _ ⟨s,h1,h2,h3,rfl⟩
 classical
 refine ⟨fun ys hy=>∃s,enc s=ys∧hp s=hy∧J s,fun ys hy=>if hJ:∃s,enc s=ys∧hp s=hy∧J s then Classical.choose (least ys hy hJ) else 0,⟨s0,e0,eh,j0⟩,?_⟩
 rintro xs hx hJ
 have Bm:=Classical.choose_spec (least xs hx hJ)
 simp only [dif_pos hJ]
 generalize Classical.choose (least xs hx hJ)=m at Bm
 obtain ⟨⟨s,a,b,c,d⟩,_⟩:=Bm
 have:=hr s c
 rw [a,b] at this
 have he:(fun (ys:List Value) (hy:ae)=>(∃s,enc s=ys∧hp s=hy∧J s)∧(if hJ:∃s,enc s=ys∧hp s=hy∧J s then Classical.choose (least ys hy hJ) else 0)<m)=
   fun ys hy=>∃s',enc s'=ys∧hp s'=hy∧J s'∧μ s'<μ s:=by
  funext ys hy
  apply propext
  constructor
  ·rintro ⟨yo,aB⟩
   rw [dif_pos yo] at aB
   obtain ⟨⟨s',a',b',c',d'⟩,_⟩:=Classical.choose_spec (least ys hy yo)
   exact ⟨s',a',b',c',by rw [d',d];exact aB⟩
  ·rintro ⟨s',a',b',c',d'⟩
   refine ⟨⟨s',a',b',c'⟩,?_⟩
   rw [dif_pos ⟨s',a',b',c'⟩]
   have:=(Classical.choose_spec (least ys hy ⟨s',a',b',c'⟩)).2 s' a' b' c'
   omega
 rw [he]
 exact this

theorem db {σ:Type} {init:List Value} {h:ae} {Q:(List Value→ae→Prop)→List Value→ae→Prop} (enc:σ→List Value) (hp:σ→ae) (J:σ→Prop) (μ:σ→Nat) (s0:σ)
  (e0:enc s0=init) (eh:hp s0=h) (j0:J s0) (hr:∀s,J s→∀L:List Value→ae→Prop,(∀s',J s'→μ s'<μ s→L (enc s') (hp s'))→Q L (enc s) (hp s)):cB init h Q:=
 aua enc hp J μ s0 e0 eh j0 fun s hs=>hr s hs _ fun s' h1 h2=>⟨s',rfl,rfl,h1,h2⟩


def EX (h h':ae):Prop:=h.length≤h'.length∧∀i,i<h.length→h'[i]?=h[i]?

theorem EX.refl (h:ae):EX h h:=⟨Nat.le_refl _,fun _ _=>rfl⟩
theorem EX.trans {a b c:ae} (h:EX a b) (k:EX b c):EX a c:=⟨Nat.le_trans h.1 k.1,fun i hi=>(k.2 i (Nat.lt_of_lt_of_le hi h.1)).trans (h.2 i hi)⟩
theorem EX.append (h g:ae):EX h (h++g):=⟨by simp,fun i hi=>List.getElem?_append_left hi⟩
theorem EX.push {a h:ae} (k:EX a h) (g:ae):EX a (h++g):=k.trans (.append h g)
theorem EX.set {a h:ae} (k:EX a h) {i:Nat} (hi:a.length≤i) (o:ak):EX a (h.set i o):=⟨by simpa using k.1,fun j hj=>by rw [List.getElem?_set_ne (by omega)];exact k.2 j hj⟩
theorem EX.get {a h:ae} (k:EX a h) {i:Nat} {o:ak} (hi:a[i]?=some o):h[i]?=some o:=by rw [k.2 i (List.getElem?_eq_some_iff.1 hi).1];exact hi
theorem EX.cells {a h:ae} (k:EX a h) {i:Nat} {xs:List Value} (hi:aQ a i=some xs):aQ h i=some xs:=by
 unfold aQ at hi⊢
 have aB:i<a.length:=by
  apply Classical.byContradiction
  intro hc
  rw [List.getElem?_eq_none (Nat.le_of_not_lt hc)] at hi
  simp at hi
 rw [k.2 i aB]
 exact hi

def eR:Value→Bool
 | .bool _ | .int .. | .string _ | .nilFunc | .nilIface=>true
 | .pointer none | .map none=>true
 | .slice none 0 0=>true
 | _=>false

theorem eR.rel {ρ ar:aI} {v v':Value} (h:eR v=true) (hv:av ρ v v'):av ar v v':=by
 unfold eR at h
 split at h
 ·cases hv;exact .bool _
 ·cases hv;exact .int _ _
 ·cases hv;exact .string _
 ·cases hv;exact .nilFunc
 ·cases hv;exact .nilIface
 ·cases hv;exact .rr
 ·cases hv;exact .rp
 ·cases hv;exact .om
 ·cases h

def mz (V:Nat→Value):Prop:=∀(ρ ar:aI) (i j:Nat) (v':Value),ar j=ρ i→av ρ (V i) v'→av ar (V j) v'

theorem mz.eR {v:Value} (h:eR v=true):mz fun _=>v:=fun _ _ _ _ _ _ hv=>eR.rel h hv
theorem mz.pt (o:Nat):mz fun i=>pt i o:=by
 intro ρ ar i j v' e hv
 cases hv with
 | ptr hr=>exact .ptr (by rw [e];exact hr)
theorem mz.sl (e:TypeId) (o n:Nat):mz fun i=>sl e i o n:=by
 intro ρ ar i j v' he hv
 cases hv with
 | slice hr a b c d=>exact .slice (by rw [he];exact hr) a b c d

inductive uS:List (Nat→Value)→Prop
 | nil:uS []
 | cons {V:Nat→Value} {l:List (Nat→Value)}:mz V→uS l→uS (V::l)

theorem uS.rel {l:List (Nat→Value)} (h:uS l) {ρ ar:aI} {i j:Nat} (e:ar j=ρ i):∀{ys:List Value},bn ρ (l.map (· i)) ys→bn ar (l.map (· j)) ys:=by
 induction h with
 | nil=>intro ys hv;cases hv;exact .nil
 | cons hV _ ih=>intro ys hv;cases hv with | cons a b=>exact .cons (hV _ _ _ _ _ e a) (ih b)

theorem mz.tuple {l:List (Nat→Value)} (h:uS l):mz fun i=>.tuple (l.map (· i)).toArray:=by
 intro ρ ar i j v' e hv
 cases hv with
 | tuple hs hr=>
  rename_i xs'
  have:=h.rel e (bn.qC hs hr)
  have:=av.pv this
  simpa using this

theorem mz.agg {l:List (Nat→Value)} (h:uS l) (hc:∀j,∀V∈l,fw (V j)=true):mz fun i=>.agg (l.map (· i)).toArray:=by
 intro ρ ar i j v' e hv
 cases hv with
 | agg hs h1 hr=>
  rename_i xs'
  have:=h.rel e (bn.qC hs hr)
  have:=av.xT this (by
   intro x hx
   simp only [List.mem_map] at hx
   obtain ⟨V,hV,rfl⟩:=hx
   exact hc j V hV)
  simpa using this

section gc
variable {P : Program} {F : FuncId} {args : List Value} {h : ae}

def sR:ak→Bool
 | .ro _ xs | .arr _ xs=>xs.all eR
 | .smap es=>es.all fun p=>eR p.2
 | .jm _ es=>es.all fun p=>eR p.2
 | .dH _ _ es=>es.all fun p=>eR p.2.2
 | _=>false

theorem sR.rel {ρ ar:aI} {w:World} {r:RI} {o:ak} (hp:sR o=true) (h:jF ρ w r o):jF ar w r o:=by
 have cells:∀{c:Array Value} {sh:Nat} {xs:List Value},xs.all eR=true→fm ρ c sh xs→fm ar c sh xs:=by
  intro c sh xs hs hc j x hj
  obtain ⟨h1,y,hy,hr⟩:=hc j x hj
  rw [List.all_eq_true] at hs
  exact ⟨h1,y,hy,eR.rel (hs x (List.mem_of_getElem? hj)) hr⟩
 cases o with
 | ro e xs=>obtain ⟨h1,c,t,fr,h2,h3,h4⟩:=h;exact ⟨h1,c,t,fr,h2,h3,cells hp h4⟩
 | arr e xs=>obtain ⟨h1,h0,c,h2,h3,h4⟩:=h;exact ⟨h1,h0,c,h2,h3,cells hp h4⟩
 | smap es=>
  obtain ⟨aH,clock,h1,h2,h3⟩:=h
  refine ⟨aH,clock,h1,h2,fun j k v hj=>?_⟩
  obtain ⟨en,e1,e2,e3⟩:=h3 j k v hj
  simp only [sR,List.all_eq_true] at hp
  exact ⟨en,e1,e2,eR.rel (hp (k,v) (List.mem_of_getElem? hj)) e3⟩
 | jm kd es=>
  obtain ⟨aH,clock,h1,h2,h3⟩:=h
  refine ⟨aH,clock,h1,h2,fun j k v hj=>?_⟩
  obtain ⟨en,e1,e2,e3⟩:=h3 j k v hj
  simp only [sR,List.all_eq_true] at hp
  exact ⟨en,e1,e2,eR.rel (hp (k,v) (List.mem_of_getElem? hj)) e3⟩
 | dH g c es=>
  obtain ⟨h0,aH,h1,h2,h3⟩:=h
  refine ⟨h0,aH,h1,h2,fun j b k v hj=>?_⟩
  obtain ⟨e0,en,e1,e2,vp,e3⟩:=h3 j b k v hj
  simp only [sR,List.all_eq_true] at hp
  exact ⟨e0,en,e1,e2,vp,eR.rel (hp (b,k,v) (List.mem_of_getElem? hj)) e3⟩
 | iter m s n l=>cases hp
 | loop c ls vs=>cases hp
 | dead=>cases hp

theorem apz {K:Value→ae→Prop} {v:Value} {h':ae} (hV:mz fun _=>v) (hc:tn P F args [] v h') (ha:args.all eR=true) (hk:K v h):aj P F args h K:=by
 rw [rJ]
 refine ⟨v,h,?_,hk⟩
 intro ρ args' w hv H
 have Ns:∀{xs ys:List Value},xs.all eR=true→bn ρ xs ys→bn (fun _=>none) xs ys:=by
  intro xs ys hs hr
  induction hr with
  | nil=>exact .nil
  | cons a _ ih=>simp only [List.all_cons,Bool.and_eq_true] at hs;exact .cons (eR.rel hs.1 a) (ih hs.2)
 have H0:aU P (fun _=>none) [] w:=⟨fun i r hi=>(by cases hi),fun i j r s hi=>(by cases hi),fun i r hi=>(by cases hi)⟩
 refine (hc _ args' w (Ns ha hv) H0).mono ?_
 rintro e w' ⟨v',ar,rfl,jR,H',T⟩
 have dI:∀b,b<w.heap.size→w'.heap[b]?=w.heap[b]?:=fun b hb=>T.fT b hb fun j s hj=>(by cases hj)
 refine ⟨v',ρ,rfl,hV ar ρ h'.length h.length v' (by rw [H.none,H'.none]) jR,⟨?_,H.inj,H.aV⟩,?_⟩
 ·intro k r hr
  obtain ⟨o,ho,kV⟩:=H.obj k r hr
  refine ⟨o,ho,?_⟩
  by_cases hd:o=.dead
  ·subst hd;trivial
  ·exact kV.mono (.refl _) (dI _ (zh H hr ⟨o,ho,hd⟩))
 ·exact {
   ext:=.refl _
   len:=Nat.le_refl _
   il:=fun k r hr=>H.lt hr
   kinds:=fun _ _ h=>h
   fresh:=fun k r h1 h2=>by rw [h1] at h2;cases h2
   gE:=T.gE
   fT:=fun b hb _=>dI b hb
   os:=T.os
   tape:=T.tape
   output:=T.output }
end gc
end Go.Sim


namespace Go.Sim
open Go.ChangeShapes Go.WideShapes Go.ChangeAt Go.RowKit

def ma (h:ae):Prop:=∀i,¬ca h i

section
variable {P : Program} {W : World} {ρ : aI} {h : ae}

theorem aU.start (P:Program) (W:World):aU P (fun _=>Option.none) [] W:=⟨fun i r hi=>(by cases hi),fun i j r s hi=>(by cases hi),fun i r hi=>(by cases hi)⟩
theorem ma.start:ma []:=fun i hm=>by unfold ca at hm;simp at hm

theorem aU.T4 (H:aU P ρ h W) (hr:ma h) {r:RI} (he:r.aV=P.cellsOf r.elem) {o:ak} (cU:o=.dead∨∃e xs,o=.ro e xs) (ho:jF (ρ.add h.length r) W r o):
  aU P (ρ.add h.length r) (h++[o]) W∧ma (h++[o])∧ρ.le (ρ.add h.length r):=by
 have iM:ma (h++[o]):=by
  intro i hm
  unfold ca at hm
  by_cases hi:i<h.length
  ·rw [List.getElem?_append_left hi] at hm
   exact hr i hm
  ·by_cases he:i=h.length
   ·subst he
    have e:(h++[o])[h.length]?=some o:=by simp
    rw [e] at hm
    rcases cU with rfl | ⟨_,_,rfl⟩ <;> rcases hm with ⟨_,_,h1⟩ | ⟨_,h1⟩ | ⟨_,_,_,h1⟩ | ⟨_,_,h1⟩ | ⟨_,_,_,h1⟩ | ⟨_,_,_,_,h1⟩ <;> cases h1
   ·rw [List.getElem?_eq_none (by simp;omega)] at hm
    rcases hm with ⟨_,_,h1⟩ | ⟨_,h1⟩ | ⟨_,_,_,h1⟩ | ⟨_,_,h1⟩ | ⟨_,_,_,h1⟩ | ⟨_,_,_,_,h1⟩ <;> cases h1
 refine ⟨⟨?_,fun i j r s _ _ _ hm=>absurd hm (iM i),?_⟩,iM,aI.sM H.none⟩
 ·intro i s hi
  unfold aI.add at hi
  split at hi
  ·rename_i e
   subst e
   cases hi
   exact ⟨o,by simp,ho⟩
  ·obtain ⟨o',h1,h2⟩:=H.obj i s hi
   exact ⟨o',by rw [List.getElem?_append_left (H.lt hi)];exact h1,h2.mono (aI.sM H.none) rfl⟩
 ·intro i s hi
  unfold aI.add at hi
  split at hi
  ·cases hi;exact he
  ·exact H.aV i s hi

theorem eR.self {v:Value} (hs:eR v=true) (ρ:aI):av ρ v v:=by
 unfold eR at hs
 split at hs
 ·exact .bool _
 ·exact .int _ _
 ·exact .string _
 ·exact .nilFunc
 ·exact .nilIface
 ·exact .rr
 ·exact .rp
 ·exact .om
 ·cases hs

theorem eR.cell {v:Value} (hs:eR v=true):fw v=true:=by
 unfold eR at hs
 split at hs <;> first | rfl | cases hs

variable {H : Type} {enc : TypeId × Value → H}

theorem addr_eq {a:Addr} (hs:a.spot=none) (n:Nat):a.add n=⟨a.block,a.off+n,none⟩:=by
 obtain ⟨b,o,s⟩:=a
 simp only at hs
 subst hs
 unfold Addr.add
 split
 ·rename_i h;subst h;rfl
 ·rfl

theorem aqQ {t e:TypeId} (ht:P.underlying t=some (.slice e)) (gU:P.cellsOf e≠0)
  (flat:∀n cs y,DataW.trod enc P W 0 (fun _=>true) true n e cs=some y→cs.length=P.cellsOf e∧∀x∈cs,eR x=true)
  {fuel:Nat} {v:Value} {x:DataW H×List MemPlace} (hd:DataW.trod enc P W 0 (fun _=>true) true fuel t [v]=some x) (aA:∀(a:Addr) (len cap:Nat),v=.slice (some a) len cap→a.spot=none) (HR:aU P ρ h W) (iM:ma h):
  ∃(ar:aI) (g:ae) (v':Value) (n:Nat) (xs:List Value),ρ.le ar∧aU P ar (h++g) W∧ma (h++g)∧av ar v' v∧fw v'=true∧
   ((v'=.slice none 0 0∧n=0)∨∃i,v'=sl e i 0 n∧(n=0∨aQ (h++g) i=some xs))∧xs.length=n*P.cellsOf e∧(∀y∈xs,eR y=true)∧
   ∀i,i<n→∃m y,DataW.trod enc P W 0 (fun _=>true) true m e ((xs.drop (i*P.cellsOf e)).take (P.cellsOf e))=some y:=by
 rcases DataW.trod_slice ht hd with ⟨h1,_⟩ | ⟨a,len,cap,elems,rest,n,_,h1,_,hb,hl,hm,hlen,MK,wy,_⟩
 ·obtain rfl:v=.slice none 0 0:=by simpa using h1
  exact ⟨ρ,[],.slice none 0 0,0,[],.refl _,by simpa using HR,by simpa using iM,.om,rfl,.inl ⟨rfl,rfl⟩,by simp,by simp,fun i hi=>by omega⟩
 ·obtain rfl:v=.slice (some a) len cap:=by simpa using h1
  have yM:a.spot=none:=aA a len cap rfl
  obtain ⟨Ni,hr⟩:=wy rfl
  -- every aAu cells lie there
  have each:∀i,i<cap→∃cs y,W.cells? 0 (a.add (i*P.cellsOf e)) (P.cellsOf e)=some cs∧DataW.trod enc P W 0 (fun _=>true) true n e cs=some y:=by
   intro i hi
   have kQ:∃y,(W.cells? 0 (a.add (i*P.cellsOf e)) (P.cellsOf e)).bind (DataW.trod enc P W 0 (fun _=>true) true n e)=some y:=by
    by_cases bF:i<len
    ·rw [MK i bF,List.getElem?_eq_getElem (by omega)]
     exact ⟨_,rfl⟩
    ·have:=hr (i-len) (by omega)
     rw [show len+(i-len)=i by omega] at this
     rw [this,List.getElem?_eq_getElem (by omega)]
     exact ⟨_,rfl⟩
   obtain ⟨y,hy⟩:=kQ
   rw [Option.bind_eq_some_iff] at hy
   obtain ⟨cs,h1,h2⟩:=hy
   exact ⟨cs,y,h1,h2⟩
  by_cases pT:cap=0
  ·subst pT
   obtain rfl:len=0:=by omega
   obtain ⟨H',Nj,hle⟩:=HR.T4 iM (r:=⟨a.block,a.off,e,P.cellsOf e,a.off⟩) rfl (.inl rfl) trivial
   refine ⟨_,[.dead],sl e h.length 0 0,0,[],hle,H',Nj,?_,rfl,.inr ⟨_,rfl,.inl rfl⟩,by simp,by simp,fun i hi=>by omega⟩
   obtain ⟨ab,ao,rM⟩:=a
   simp only at yM
   subst yM
   exact av.slice (ρ:=ρ.add h.length ⟨ab,ao,e,P.cellsOf e,ao⟩) (i:=h.length) (o:=0) (n:=0) (o':=ao) (c':=0) (r:=⟨ab,ao,e,P.cellsOf e,ao⟩) (by simp [aI.add]) (.inl rfl) (Nat.le_refl _) (by unfold maxLen;omega) (by simp)
  ·have yA:0<P.cellsOf e:=by omega
   -- fS block
   have arG:∃c tt fr,W.heap[a.block]?=some (.cells c tt fr):=by
    obtain ⟨cs,y,h1,h2⟩:=each 0 (by omega)
    obtain ⟨_,g2,g3⟩:=World.cells?_some h1
    have:=g3 0 yA
    rw [Nat.zero_mul,addr_eq yM 0,addr_eq rfl 0,List.getElem?_eq_getElem (by omega)] at this
    unfold World.cell? at this
    split at this
    ·rename_i c tt fr hh;exact ⟨c,tt,fr,hh⟩
    ·cases this
   obtain ⟨c,tt,fr,yx⟩:=arG
   have get:∀i cs,W.cells? 0 (a.add (i*P.cellsOf e)) (P.cellsOf e)=some cs→∀j,j<P.cellsOf e→c[a.off+(i*P.cellsOf e+j)]?=cs[j]?:=by
    intro i cs h1 j hj
    obtain ⟨_,g2,g3⟩:=World.cells?_some h1
    have:=g3 j hj
    rw [addr_eq yM,addr_eq rfl] at this
    simp only [World.cell?,yx] at this
    simpa [Nat.add_assoc] using this
   have here:∀j,j<cap*P.cellsOf e→∃y,c[a.off+j]?=some y∧eR y=true:=by
    intro j hj
    have hi:j / P.cellsOf e<cap:=(Nat.div_lt_iff_lt_mul yA).2 hj
    obtain ⟨cs,y,h1,h2⟩:=each _ hi
    obtain ⟨f1,f2⟩:=flat n cs y h2
    have mI:j%P.cellsOf e<P.cellsOf e:=Nat.mod_lt _ yA
    have:=get _ cs h1 (j%P.cellsOf e) mI
    rw [show j / P.cellsOf e*P.cellsOf e+j%P.cellsOf e=j by rw [Nat.mul_comm];exact Nat.div_add_mod j _] at this
    rw [this,List.getElem?_eq_getElem (by omega)]
    exact ⟨_,rfl,f2 _ (List.getElem_mem _)⟩
   let xs:=(List.range (len*P.cellsOf e)).map fun j=>c.getD (a.off+j) Go.undef
   have fQ:xs.length=len*P.cellsOf e:=by simp [xs]
   have hlc:len*P.cellsOf e≤cap*P.cellsOf e:=Nat.mul_le_mul_right _ hl
   have Ny:∀j,j<len*P.cellsOf e→xs[j]?=c[a.off+j]?:=by
    intro j hj
    obtain ⟨y,h1,_⟩:=here j (by omega)
    simp [xs,hj,h1]
   have nm:∀y∈xs,eR y=true:=by
    intro y hy
    obtain ⟨j,hj⟩:=List.getElem?_of_mem hy
    have aB:j<len*P.cellsOf e:=by have:=(List.getElem?_eq_some_iff.1 hj).1;omega
    obtain ⟨z,h1,h2⟩:=here j (by omega)
    rw [Ny j aB,h1] at hj
    cases hj
    exact h2
   have asx:a.off+cap*P.cellsOf e≤c.size:=by
    have aAN:0<cap*P.cellsOf e:=Nat.mul_pos (by omega) yA
    obtain ⟨y,h1,_⟩:=here (cap*P.cellsOf e-1) (by omega)
    have:=(Array.getElem?_eq_some_iff.1 h1).1
    omega
   obtain ⟨H',Nj,hle⟩:=HR.T4 iM (r:=⟨a.block,a.off,e,P.cellsOf e,c.size⟩) rfl (.inr ⟨e,xs,rfl⟩) ⟨rfl,c,tt,fr,yx,rfl,fun j y hj=>by
    have aB:j<len*P.cellsOf e:=by have:=(List.getElem?_eq_some_iff.1 hj).1;omega
    rw [Ny j aB] at hj
    obtain ⟨z,h1,h2⟩:=here j (by omega)
    rw [h1] at hj
    cases hj
    exact ⟨eR.cell h2,_,h1,eR.self h2 _⟩⟩
   refine ⟨_,[.ro e xs],sl e h.length 0 len,len,xs,hle,H',Nj,?_,rfl,.inr ⟨_,rfl,.inr (by simp [aQ])⟩,fQ,nm,?_⟩
   ·obtain ⟨ab,ao,rM⟩:=a
    simp only at yM
    subst yM
    exact av.slice (ρ:=ρ.add h.length ⟨ab,ao,e,P.cellsOf e,c.size⟩) (i:=h.length) (o:=0) (n:=len) (o':=ao) (c':=cap) (r:=⟨ab,ao,e,P.cellsOf e,c.size⟩) (by simp [aI.add]) (.inl rfl) hl hm asx
   ·intro i hi
    obtain ⟨cs,y,h1,h2⟩:=each i (by omega)
    refine ⟨n,y,?_⟩
    have fa:=(flat n cs y h2).1
    have hmul:(i+1)*P.cellsOf e≤len*P.cellsOf e:=Nat.mul_le_mul_right _ hi
    rw [Nat.add_mul,Nat.one_mul] at hmul
    have:(xs.drop (i*P.cellsOf e)).take (P.cellsOf e)=cs:=by
     apply List.ext_getElem?
     intro j
     rw [List.getElem?_take]
     by_cases hj:j<P.cellsOf e
     ·rw [if_pos hj,List.getElem?_drop,Ny _ (by omega),get i cs h1 j hj]
     ·rw [if_neg hj,List.getElem?_eq_none (by omega)]
    rw [this]
    exact h2

theorem ahE (hl:laidOutB P=true) {W':World} (hb:Below W.heap.size W W'):∀{ts:List TypeId} {vs:List Value} {ds:List (DataW H)} {p:List MemPlace},(∀t∈ts,P.readableRec t=true∧t<P.types.size)→
  DataW.TrodAll enc P W 0 (fun _=>true) true ts vs ds p→(∀x∈p,x.block<W.heap.size)→DataW.TrodAll enc P W' 0 (fun b=>decide (b<W.heap.size)) true ts vs ds p
 | [],vs,ds,p,_,h,_=>by
  obtain ⟨rfl,rfl,rfl⟩:=trodAll_nil h
  exact trodAll_mk0
 | t::ts,vs,ds,p,hr,h,aB=>by
  obtain ⟨v,iB,d,ds',a,b,rfl,rfl,rfl,h1,h2⟩:=trodAll_cons h
  exact trodAll_cons_mk (Below.trod hl (hr t (by simp)).1 (hr t (by simp)).2 h1 hb fun x hx=>aB x (by simp [hx]))
   (ahE hl hb (fun t ht=>hr t (by simp [ht])) h2 fun x hx=>aB x (by simp [hx]))

theorem auP (hl:laidOutB P=true) {f:Func} {s:ChangeSpec} {t4:TypeId} {W':World} {args:Array Value} {ds gs:List (DataW H)} {before:List MemPlace} (hW:DataW.Whole enc P f.params.toList s.vars false W args.toList ds gs before)
  (hv:s.vars=[]) (ht4:P.underlying t4=some .bool) (hr:f.resultTypes=#[t4]) (hfn:∀Mt,Mt=[]→s.fn H (ds++Mt)={ results:=[.lit (.bool true)],args:=ds })
  (asl:∀t∈f.params.toList,P.readableRec t=true∧t<P.types.size) (hb:Below W.heap.size W W'):s.post enc P f false true false false W args (.bool true) W':=by
 have E4:=hW
 obtain ⟨p,q,hA,hV,rfl,_,_⟩:=hW
 rw [hv] at hV
 obtain ⟨rfl,rfl⟩:=trodVars_none hV
 have aB:∀x∈p,x.block<W.heap.size:=fun x hx=>E4.lt x (by simp [hx])
 have e:=hfn [] rfl
 refine ⟨ds,[],p++[],[],p,[],E4,?_,?_,?_,hb.frame _,fun h=>by cases h⟩
 ·rw [e,hr]
  exact trodAll_mk1 (shut_bool ht4 true)
 ·rw [e]
  exact ahE hl hb asl hA aB
 ·rw [e,hv]
  rfl

end
end Go.Sim


namespace Go.Sim

theorem xd (k:IntKind) (a b:Nat) (hb:b≠0):ah .rem (.int k (a:Int)) (.int k (b:Int))=some (.int k ((a%b:Nat):Int)):=by
 have h:¬((b:Int)=0):=by omega
 simp only [ah,fY,if_true,if_neg h]
 congr 2

structure NS (h:ae) (v:Value) (k:IntKind) (ns:List Int):Prop where
 len:aY v=some (I ns.length)
 get:∀i (hi:i<ns.length),∃b o,aS 1 v (I i)=some (pt b o)∧af false 1 h (pt b o)=some (.int k ns[i])
 le:ns.length≤maxLen

theorem at8 {h h':ae} (k:EX h h') {agg:Bool} {n:Nat} {a v:Value} (hl:af agg n h a=some v):af agg n h' a=some v:=by
 unfold af at hl⊢
 split at hl
 ·rename_i i o
  cases hc:aQ h i with
  | none=>rw [hc] at hl;cases hl
  | some xs=>rw [hc] at hl;rw [k.cells hc];exact hl
 ·cases hl

theorem NS.mono {h h':ae} {v:Value} {k:IntKind} {ns:List Int} (e:EX h h') (p:NS h v k ns):NS h' v k ns:=
 ⟨p.len,fun j hj=>let ⟨i,o,a,b⟩:=p.get j hj;⟨i,o,a,at8 e b⟩,p.le⟩

theorem NS.nil (h:ae) (k:IntKind):NS h (.slice none 0 0) k []:=⟨rfl,fun i hi=>by simp at hi,by simp⟩

theorem NS.sl {h:ae} {e:TypeId} {i:Nat} {k:IntKind} {ns:List Int} (hc:ns=[]∨aQ h i=some (ns.map (Value.int k))) (hl:ns.length≤maxLen):NS h (sl e i 0 ns.length) k ns:=by
 refine ⟨rfl,fun j hj=>⟨i,j,?_,?_⟩,hl⟩
 ·have:(0:Int)≤(j:Int)∧(j:Int)<(ns.length:Int):=by omega
  simp [Go.Sim.sl,aS,this]
 ·have hc:=hc.resolve_left (by rintro rfl;simp at hj)
  simp [af,hc,ck,hj]

section
open Go.ChangeShapes
variable {P : Program} {W : World} {ρ : aI} {h : ae} {H : Type} {enc : TypeId × Value → H}

end
end Go.Sim


namespace Go.Sim

def zG (P:Program) (o:fL) (f:Nat→Value) (h:ae) (K:Value→ae→Prop):Prop:=
 match o with
 | .e (.next it)=>∃l,w5 h (ev f it)=some l∧∀p∈l,K p.1 p.2
 | o=>cL P o f h K

def yl (P:Program):List gR→((Nat→Value)→ae→Prop)→(Nat→Value)→ae→Prop
 | [],K,f,h=>K f h
 | o::os,K,f,h=>zG P o.op f h fun v h'=>yl P os K (cX f o.dst v) h'

def Gd (P:Program) (g:Option (Nat×Bool)) (l:List gR) (K:(Nat→Value)→ae→Prop) (f:Nat→Value) (h:ae):Prop:=
 match g with
 | none=>yl P l K f h
 | some (s,b)=>qw P (some (s,b)) l K f h

noncomputable def jS (P:Program) (c:dT):aq→(Nat→Value)→ae→Prop:=
 dT.rec (motive:=fun _=>aq→(Nat→Value)→ae→Prop)
  (fun K f h=>K .normal f h)
  (fun l K f h=>lL P l 0 [] [] (K .normal) f h)
  (fun g l K f h=>Gd P g l (K .normal) f h)
  (fun _ _ ia ib K f h=>ia (aC (ib K) K) f h)
  (fun ls _ ic K f h=>ya (ic K) ls (ls.map f) h)
  (fun c _ _ ia ib K f h=>mX (ev f c) (ia K f h) (ib K f h))
  (fun id _ ic K f h=>ic (bz id K) f h)
  (fun ks ls _ ic K f h=>wT (ls.map f) h fun L xs hx=>ic (aC (fun f' aR=>ks.map f'=ks.map f∧L (ls.map f') aR) K) (jc (ks++ls) (ks.map f++xs)) hx)
  (fun id K f h=>K (.exit id) f h)
  (fun K f h=>K .ret f h)
  (fun g ls c K f h=>rA P (ev f g) ls (ls.map f) c h (K .normal f)) c

section
variable {P : Program} {w : World} {ρ : aI} {h : ae}

theorem auo (H:aU P ρ h w) {it BB:Value} {l:List (Value×ae)} (hn:w5 h it=some l) (hv:av ρ it BB) (ty:TypeId):
  ∃p∈l,∃v' w',(Instr.next BB false ty).run P w=.ok v' w'∧av ρ p.1 v'∧aU P ρ p.2 w'∧Tr ρ h w ρ p.2 w':=by
 unfold w5 at hn
 split at hn
 ·rename_i j
  split at hn
  ·rename_i i since seen last pY
   split at hn
   ·rename_i g c es iX
    split at hn
    ·cases hn
    rename_i qY
    simp only [Option.some.injEq] at hn
    cases hv with
    | ptr hr=>
     rename_i r
     obtain ⟨o,ho,kV⟩:=H.obj j r hr
     rw [pY] at ho
     cases ho
     obtain ⟨FA,rm,Fz,hb⟩:=kV
     obtain ⟨aH,hm,E⟩:=H.yc Fz iX
     rw [FA]
     -- fS entries,one by one
     have ar6:aH.toList.map (fun e=>e.born)=es.map fun e=>e.1:=by
      apply List.ext_getElem?
      intro q
      simp only [List.getElem?_map]
      by_cases hq:q<es.length
      ·have he:=List.getElem?_eq_getElem hq
       generalize es[q]=x at he
       obtain ⟨b,k,v⟩:=x
       obtain ⟨_,en,g2,g3,g4,g5⟩:=E.get q b k v he
       rw [he,Array.getElem?_toList,g2]
       simp [g4]
      ·have h1:aH.toList[q]?=none:=List.getElem?_eq_none (by rw [Array.length_toList,E.size];omega)
       rw [h1,List.getElem?_eq_none (by omega)];rfl
     have hz:∀en∈aH.toList,∃e∈es,e.1=en.born∧e.2.1=en.key∧av ρ e.2.2 en.val:=by
      intro en yz
      obtain ⟨q,hq,e'⟩:=List.mem_iff_getElem.1 yz
      have:aH[q]?=some en:=by rw [←Array.getElem?_toList,List.getElem?_eq_getElem hq,e']
      obtain ⟨v,q1,_,q3⟩:=E.inv this
      exact ⟨_,List.mem_of_getElem? q1,rfl,rfl,q3⟩
     have pa:∀e∈es,∃en∈aH.toList,e.1=en.born:=by
      intro e he
      have:e.1∈es.map fun e=>e.1:=List.mem_map.2 ⟨e,he,rfl⟩
      rw [←ar6] at this
      obtain ⟨en,h1,h2⟩:=List.mem_map.1 this
      exact ⟨en,h1,h2.symm⟩
     -- pz fS model aA1
     let left:=aH.filter fun e=> !(seen.toArray.contains e.born)
     let old:=left.filter fun e=>decide (e.born<since)
     let new:=left.filter fun e=>decide (e.born≥since)
     let mW:Array (Option MapEntry):=(if old.isEmpty then #[none] else #[])++(old++new).map some
     have qZ:(!seen.toArray.isEmpty&& !aH.isEmpty&&aH.all fun e=>decide (e.born≥last))=false:=by
      rw [Bool.eq_false_iff]
      intro hx
      apply qY
      simp only [Bool.and_eq_true] at hx⊢
      obtain ⟨⟨x1,x2⟩,x3⟩:=hx
      refine ⟨⟨by simpa using x1,?_⟩,?_⟩
      ·have:aH.size≠0:=by simpa [Array.isEmpty] using x2
       rw [E.size] at this
       simpa [List.isEmpty_iff] using this
      ·rw [List.all_eq_true]
       intro e he
       obtain ⟨en,h1,h2⟩:=pa e he
       rw [Array.all_eq_true'] at x3
       have:=x3 en (by simpa using h1)
       rw [h2]
       exact this
     have gU:0<mW.size:=by
      simp only [mW]
      by_cases ho:old.isEmpty=true
      ·rw [if_pos ho];simp;omega
      ·rw [if_neg ho]
       have:old.size≠0:=by simpa [Array.isEmpty] using ho
       simp;omega
     have bP:(getObj r.bm).run P w=.ok (.mapIter (some rm.bm) since seen.toArray last) w:=by simp [getObj,Sem.run,hb]
     have MO:(getObj rm.bm).run P w=.ok (.map aH c) w:=by simp [getObj,Sem.run,hm]
     obtain ⟨q,w1,hq,vP,Nv,YW⟩:∃q w1,q<mW.size∧(choose (.mapNext mW.size)).run P w=.ok q w1∧(w1.heap=w.heap∧aU P ρ h w1)∧Tr ρ h w ρ h w1:=by
      by_cases Zd:(Question.mapNext mW.size).forced=true
      ·exact ⟨0,w,gU,by simp [choose,Sem.run,Zd],⟨rfl,H⟩,Tr.refl H⟩
      ·exact ⟨(w.tape w.drawn (.mapNext mW.size))%mW.size,{ w with drawn:=w.drawn+1 },Nat.mod_lt _ gU,by simp [choose,Sem.run,Zd,Question.cut],⟨rfl,H.drew _⟩,Tr.drew H _⟩
     have hold:(es.filter fun e=> !seen.contains e.1).filter (fun e=>decide (e.1<since))=[]↔old.isEmpty=true:=by
      constructor
      ·intro h0
       simp only [old,left]
       rw [Array.isEmpty_iff_size_eq_zero]
       apply Classical.byContradiction
       intro br
       obtain ⟨en,yz⟩:∃en,en∈(Array.filter (fun e=>decide (e.born<since)) (Array.filter (fun e=> !(seen.toArray.contains e.born)) aH)):=⟨_,Array.getElem_mem (i:=0) (by omega)⟩
       rw [Array.mem_filter,Array.mem_filter] at yz
       obtain ⟨⟨e1,e2⟩,e3⟩:=yz
       obtain ⟨e,he,g1,_,_⟩:=hz en (by simpa using e1)
       have:e∈(es.filter fun e=> !seen.contains e.1).filter (fun e=>decide (e.1<since)):=by
        rw [List.mem_filter,List.mem_filter,g1]
        exact ⟨⟨he,by simpa using e2⟩,e3⟩
       rw [h0] at this
       cases this
      ·intro h0
       rw [Array.isEmpty_iff_size_eq_zero] at h0
       rw [List.filter_eq_nil_iff]
       intro e he aB
       rw [List.mem_filter] at he
       obtain ⟨en,h1,h2⟩:=pa e he.1
       have:en∈old:=by
        simp only [old,left]
        rw [Array.mem_filter,Array.mem_filter,←h2]
        exact ⟨⟨by simpa using h1,by simpa using he.2⟩,aB⟩
       rw [Array.eq_empty_of_size_eq_zero h0] at this
       simp at this
     have E8:w1.heap[r.bm]?=some (.mapIter (some rm.bm) since seen.toArray last):=by rw [Nv.1];exact hb
     obtain ⟨cq,Fa⟩:∃cq,mW[q]?=some cq:=⟨_,Array.getElem?_eq_getElem hq⟩
     have fz:∀{v' w'},(match mW[q]? with
       | some (some e)=>(do setObj r.bm (.mapIter (some rm.bm) since (seen.toArray.push e.born) c);pure (.tuple #[.bool true,e.key,e.val]):Sem Value)
       | some none=>pure (.tuple #[.bool false])
       | none=>stuck "Next: no such candidate").run P w1=.ok v' w'→(Instr.next (.pointer (some ⟨r.bm,0+0,none⟩)) false ty).run P w=.ok v' w':=by
      intro v' w' hx
      unfold Instr.next
      simp only [Nat.add_zero,Sem.run_bind,bP,Result.andThen_ok,MO,qZ,Bool.false_eq_true,if_false]
      show ((choose (.mapNext mW.size)).run P w).andThen _=_
      rw [vP]
      exact hx
     cases cq with
     | none=>
      -- it is Gh
      have ho:old.isEmpty=true:=by
       apply Classical.byContradiction
       intro ho
       have:(none:Option MapEntry)∈mW:=Array.mem_of_getElem? Fa
       simp only [mW,if_neg ho] at this
       simp at this
      refine ⟨(.tuple #[.bool false],h),?_,.tuple #[.bool false],w1,fz (by rw [Fa];rfl),av.pv (.cons (.bool _) .nil),Nv.2,YW⟩
      rw [←hn]
      have:=hold.2 ho
      refine List.mem_append_left _ ?_
      rw [this];simp
     | some en=>
      have yz:en∈old++new:=by
       have:(some en:Option MapEntry)∈mW:=Array.mem_of_getElem? Fa
       simp only [mW] at this
       rcases Array.mem_append.1 this with h1 | h1
       ·split at h1 <;> simp at h1
       ·obtain ⟨e2,h2,h3⟩:=Array.mem_map.1 h1
        cases h3
        exact h2
      have Fe:en∈aH.toList∧seen.contains en.born=false:=by
       rcases Array.mem_append.1 yz with h1 | h1
       ·simp only [old,left] at h1
        rw [Array.mem_filter,Array.mem_filter] at h1
        exact ⟨by simpa using h1.1.1,by simpa using h1.1.2⟩
       ·simp only [new,left] at h1
        rw [Array.mem_filter,Array.mem_filter] at h1
        exact ⟨by simpa using h1.1.1,by simpa using h1.1.2⟩
      obtain ⟨e,he,g1,g2,g3⟩:=hz en Fe.1
      have aB:=(List.getElem?_eq_some_iff.1 pY).1
      have gT:ca h j:=.inr (.inr (.inr (.inr (.inr ⟨_,_,_,_,pY⟩))))
      have sb:=ko.obj E8 (.mapIter (some rm.bm) since (seen.toArray.push en.born) c)
      obtain ⟨q1,q2⟩:=Nv.2.set (o:=.iter i since (seen++[e.1]) c) hr gT sb ⟨FA,rm,Fz,by rw [sb.here,g1];simp⟩
      have jQ:(setObj r.bm (.mapIter (some rm.bm) since (seen.toArray.push en.born) c)).run P w1=.ok () { w1 with heap:=w1.heap.setIfInBounds r.bm (.mapIter (some rm.bm) since (seen.toArray.push en.born) c) }:=by
       simp [setObj,Sem.run,E8]
      refine ⟨(.tuple #[.bool true,e.2.1,e.2.2],h.set j (.iter i since (seen++[e.1]) c)),?_,.tuple #[.bool true,en.key,en.val],_,fz (by rw [Fa];simp only [Sem.run_bind,jQ,Result.andThen_ok,Sem.run_pure]),?_,q1,YW.trans q2⟩
      ·rw [←hn]
       refine List.mem_append_right _ (List.mem_map.2 ⟨e,?_,rfl⟩)
       have hl:e∈es.filter fun e=> !seen.contains e.1:=by
        rw [List.mem_filter,g1]
        exact ⟨he,by simp at Fe⊢;exact Fe.2⟩
       by_cases ka:e.1<since
       ·exact List.mem_append_left _ (List.mem_filter.2 ⟨hl,by simpa using ka⟩)
       ·exact List.mem_append_right _ (List.mem_filter.2 ⟨hl,by simpa using Nat.le_of_not_lt ka⟩)
      ·rw [g2]
       have MZ:av ρ en.key en.key:=by
        have hk:dZ g en.key=true:=by
         obtain ⟨q',fC,e'⟩:=List.mem_iff_getElem.1 Fe.1
         have:aH[q']?=some en:=by rw [←Array.getElem?_toList,List.getElem?_eq_getElem fC,e']
         exact (E.inv this).choose_spec.2.1
        have ints:∀{kd:IntKind} {v:Value},jE kd v=true→av ρ v v∧fw v=true:=by
         intro kd v hv
         cases v <;> simp [jE] at hv
         exact ⟨.int _ _,rfl⟩
        cases Bb:en.key with
        | int kd n=>exact .int _ _
        | string s=>exact .string _
        | agg cs=>
         rw [Bb] at hk
         cases g with
         | ints n kd=>
          simp only [dZ,Bool.and_eq_true,List.all_eq_true] at hk
          refine .agg rfl (fun x hx=>(ints (hk.2 x hx).1).2) (fun k x x' hx bJ=>?_)
          rw [hx] at bJ
          cases bJ
          exact (ints (hk.2 x (by rw [←Array.getElem?_toList] at hx;exact List.mem_of_getElem? hx)).1).1
         | int _=>simp [dZ,jE] at hk
         | str=>simp [dZ] at hk
        | _=>rw [Bb] at hk;cases g <;> simp [dZ,jE] at hk
       exact av.pv (.cons (.bool _) (.cons MZ (.cons g3 .nil)))
   ·cases hn
  ·cases hn
 ·cases hn

end
end Go.Sim


namespace Go.Sim

section
variable {P : Program} {N : Nat}

theorem apM {op:Op} {it:Operand} (h:gq P op=some (.next it)):op=.next it false:=by
 unfold gq at h
 split at h
 case h_13=>simp at h;subst h;rfl
 all_goals exfalso
 all_goals repeat' (split at h)
 all_goals first | (cases h;done) | (simp at h;done) | (simp only [Option.map_eq_some_iff] at h;obtain ⟨_,_,h⟩:=h;cases h;done) | skip

theorem auA {o:Oper} {io:fL} {f:Nat→Value} {h:ae} {K:Value→ae→Prop} (hc:rQ P o.op=some io) (aA:o.op.operands.all hY=true) (hs:zG P io f h K):
  ∀R B ρ a w,Rel P N B ρ f h a w→∀(next:Act→World→Prop) (Q:Exit→Act→World→Prop),
   (∀v h' ar v' w',K v h'→av ar v v'→aU P ar h' w'→Tr ρ h w ar h' w'→next (a.put o.dst v') w')→o.wpIn (FR R) 0 P a w next Q:=by
 have XY:cL P io f h K→∀R B ρ a w,Rel P N B ρ f h a w→∀(next:Act→World→Prop) (Q:Exit→Act→World→Prop),
   (∀v h' ar v' w',K v h'→av ar v v'→aU P ar h' w'→Tr ρ h w ar h' w'→next (a.put o.dst v') w')→o.wpIn (FR R) 0 P a w next Q:=by
  intro hs R B ρ a w Rr next Q hn
  obtain ⟨v,h',st,hk⟩:=w7 (N:=N) hc aA hs
  exact st R B ρ a w Rr next Q fun ar v' w' h1 h2 h3=>hn v h' ar v' w' hk h1 h2 h3
 cases io with
 | e eo=>
  cases eo with
  | next it=>
   obtain ⟨l,hl,hk⟩:=hs
   rcases LB hc with ⟨po,e,_⟩ | ⟨lo,e,_⟩ | ⟨eo,e,he⟩ | ⟨g,args,at_,_,_,e⟩ | ⟨x,args,at_,_,e⟩
   ·cases e
   ·cases e
   ·cases e
    have cI:=apM he
    intro R B ρ a w Rr next Q hn
    rw [cI] at aA
    simp [Op.operands] at aA
    obtain ⟨p,hp,v',w',h1,h2,h3,h4⟩:=auo Rr.heap hl (Rr.ev aA) o.type
    exact HP (XS hc) (v:=v') (w':=w') (by simp [execOp,cI,h1]) (hn p.1 p.2 ρ v' w' (hk p hp) h2 h3 h4)
   ·cases e
   ·cases e
  | _=>exact XY hs
 | _=>exact XY hs

def lF (P:Program) (N:Nat) (ops:Array Oper) (idx:List Nat) (f:Nat→Value) (h:ae) (K:(Nat→Value)→ae→Prop):Prop:=
 ∀S B ρ a w,Rel P N B ρ f h a w→∀Q:Exit→Act→World→Prop,(∀f' h' ar a' w',K f' h'→Rel P N B ar f' h' a' w'→Tr ρ h w ar h' w'→Q .normal a' w')→wpOpsIn (FR S) 0 P ops Q idx a w

theorem fM.n {ops:Array Oper} {idx:List Nat} {f f':Nat→Value} {h h':ae} {K:(Nat→Value)→ae→Prop} (r:fM P N ops idx f h f' h') (hk:K f' h'):lF P N ops idx f h K:=
 fun S B ρ a w R Q hq=>r S B ρ a w R Q fun ar a' w' R' T=>hq f' h' ar a' w' hk R' T

theorem lF.append {ops:Array Oper} {i j:List Nat} {f:Nat→Value} {h:ae} {K K':(Nat→Value)→ae→Prop} (a:lF P N ops i f h K) (b:∀cE h₁,K cE h₁→lF P N ops j cE h₁ K'):lF P N ops (i++j) f h K':=by
 intro S B ρ ac w R Q hq
 refine rG (a S B ρ ac w R _ ?_)
 intro cE h₁ kL uY mf hk uT T
 exact b cE h₁ hk S B kL uY mf uT Q fun f' h' ar a' w' b7 R' T'=>hq f' h' ar a' w' b7 R' (T.trans T')

theorem lF.weaken {ops:Array Oper} {idx:List Nat} {f cE:Nat→Value} {h:ae} {K:(Nat→Value)→ae→Prop} (hw:qF cE f) (hr:lF P N ops idx cE h K):lF P N ops idx f h K:=
 fun S B ρ a w R=>hr S B ρ a w (R.weaken hw)

theorem YG {ops:Array Oper}:∀{l:List gR} {os:List Oper} {i:Nat} {K:(Nat→Value)→ae→Prop} {f:Nat→Value} {h:ae},(∀(k:Nat) (o:Oper),os[k]?=some o→ops[i+k]?=some o)→jL P N ops os=some (nM none l)→yl P l K f h→
  lF P N ops (List.range' i os.length) f h K
 | [],os,i,K,f,h,_,hc,hi=>by
  cases os with
  | nil=>exact fun S B ρ a w R Q hq=>hq f h ρ a w hi R (Tr.refl R.heap)
  | cons o os=>obtain ⟨x,xs,_,_,he⟩:=rP hc;simp [nM] at he
 | g::l,os,i,K,f,h,nT,hc,hi=>by
  cases os with
  | nil=>simp [jL,nM] at hc
  | cons o os=>
   obtain ⟨x,xs,h1,h2,he⟩:=rP hc
   simp only [nM,List.map_cons,List.cons.injEq] at he
   obtain ⟨rfl,rfl⟩:=he
   obtain ⟨q1,q2,q3,q4,q5⟩:=AB h1
   have ho:ops[i]?=some o:=nT 0 o rfl
   have Fu:∀(k:Nat) (o':Oper),os[k]?=some o'→ops[i+1+k]?=some o':=by
    intro k o' hk
    have:=nT (k+1) o' (by simpa using hk)
    rw [show i+(k+1)=i+1+k by omega] at this
    exact this
   intro S B ρ a w R Q hq
   rw [List.length_cons,List.range'_succ]
   simp only [wpOpsIn,ho]
   rw [if_pos (by rw [Cn q4 R trivial];rfl)]
   have dD:zG P g.op f h fun v h'=>yl P l K (cX f g.dst v) h':=hi
   refine auA q3 q1 dD S B ρ a w R _ _ ?_
   intro v h' ar v' w' hk hv H T
   have q5':g.dst=o.dst:=q5
   rw [q5'] at hk
   exact YG Fu h2 hk S B ar _ w' (R.ry q2 T hv H) Q fun AK aR kj pG iQ ar0 mw T'=>hq AK aR kj pG iQ ar0 mw (T.trans T')

theorem XV {ls:List Nat} {c:dT} {K:Exit→(Nat→Value)→ae→Prop} {f:Nat→Value} {h:ae} (hi:jS P (tF ls c) K f h):∃f',qF f' f∧jS P c K f' h:=by
 cases ls with
 | nil=>exact ⟨f,fun _=>.inl rfl,hi⟩
 | cons l ls=>exact ⟨_,BO f (l::ls),hi⟩

theorem aya {ops:Array Oper}:∀{gs:List (Option (Nat×Bool)×List gR)} {hs:Hints} {os:List Oper} {i:Nat} {K:Exit→(Nat→Value)→ae→Prop} {f:Nat→Value} {h:ae},
  (∀(k:Nat) (o:Oper),os[k]?=some o→ops[i+k]?=some o)→jL P N ops os=some (lK gs)→(∀g l,(g,l)∈gs→∀o∈l,leaves g o.dst=true)→jS P (ow gs hs).1 K f h→
  lF P N ops (List.range' i os.length) f h (K .normal):=by
 intro gs
 induction gs with
 | nil=>
  intro hs os i K f h nT hc _ hi
  cases os with
  | nil=>exact fun S B ρ a w R Q hq=>hq f h ρ a w hi R (Tr.refl R.heap)
  | cons o os=>
   obtain ⟨x,xs,_,_,he⟩:=rP hc
   simp [lK] at he
 | cons a gs ih=>
  obtain ⟨g,l⟩:=a
  intro hs os i K f h nT hc hl hi
  simp only [lK] at hc
  obtain ⟨jV,fA,rfl,c0,c1⟩:=Lz hc
  have Fv:∀(k:Nat) (o:Oper),jV[k]?=some o→ops[i+k]?=some o:=by
   intro k o hk
   refine nT k o ?_
   rw [List.getElem?_append_left (List.getElem?_eq_some_iff.1 hk).1]
   exact hk
  have M6:∀(k:Nat) (o:Oper),fA[k]?=some o→ops[i+jV.length+k]?=some o:=by
   intro k o hk
   rw [Nat.add_assoc]
   refine nT _ o ?_
   rw [List.getElem?_append_right (by omega)]
   simpa using hk
  have first:∀{K:(Nat→Value)→ae→Prop},Gd P g l K f h→lF P N ops (List.range' i jV.length) f h K:=by
   intro K hk
   cases g with
   | none=>exact YG Fv c0 hk
   | some sb=>
    obtain ⟨f',h',r1,r2⟩:=FI Fv c0 (ac9 (fun o ho=>hl _ l (by simp) o ho) hk)
    exact r1.n r2
  have both:∀{I9:(Nat→Value)→ae→Prop},lF P N ops (List.range' i jV.length) f h I9→(∀cE h₁,I9 cE h₁→lF P N ops (List.range' (i+jV.length) fA.length) cE h₁ (K .normal))→lF P N ops (List.range' i (jV++fA).length) f h (K .normal):=by
   intro I9 a b
   rw [List.length_append,←List.range'_append_1]
   exact a.append b
  have rest:∀{hs:Hints} {cE:Nat→Value} {h₁:ae},jS P (ow gs hs).1 K cE h₁→lF P N ops (List.range' (i+jV.length) fA.length) cE h₁ (K .normal):=
   fun hk=>ih M6 c1 (fun g' l' hm=>hl g' l' (by simp [hm])) hk
  cases gs with
  | nil=>
   have Bj:jS P (.ops g l) K f h:=by
    cases hs <;> exact hi
   have r1:=first Bj
   have h1:fA=[]:=by
    cases fA with
    | nil=>rfl
    | cons o os=>obtain ⟨x,xs,_,_,he⟩:=rP c1;simp [lK] at he
   subst h1
   simpa using r1
  | cons b gs=>
   cases hs with
   | nil=>exact both (first (K:=fun f h=>jS P (ow (b::gs) []).1 K f h) hi) fun cE h₁ r2=>rest r2
   | cons h0 hs=>
    refine both (first (K:=fun f h=>jS P (tF h0 (ow (b::gs) hs).1) K f h) hi) fun cE h₁ r2=>?_
    obtain ⟨Mf,hw,r3⟩:=XV r2
    exact (rest r3).weaken hw

def uR (P:Program) (N B:Nat) (ρ:aI) (h:ae) (w:World) (K:aq):Exit→Act→World→Prop:=
 fun e a' w'=>∃f' h' ar,K e f' h'∧Rel P N B ar f' h' a' w'∧Tr ρ h w ar h' w'

def tz (P:Program) (N:Nat) (out:Bool) (c:Code) (f:Nat→Value) (h:ae) (K:aq):Prop:=
 ∀S,(out=true→S=none)→∀B ρ a w,Rel P N B ρ f h a w→c.wpIn (FR S) 0 P (uR P N B ρ h w K) a w

def xN (P:Program) (N:Nat) (out:Bool) (c:Code) (f:Nat→Value) (h:ae) (K:aq):Prop:=
 ∀S,(out=true→S=none)→∀B ρ a w,Rel P N B ρ f h a w→oh S P c (uR P N B ρ h w K) a w

variable {out : Bool}

theorem fE.n {c:Code} {f f':Nat→Value} {h h':ae} {e:Exit} {K:aq} (r:fE P N out c f h e f' h') (hk:K e f' h'):tz P N out c f h K:=by
 intro S hS B ρ a w R
 refine wpIn_mono (r S hS B ρ a w R) ?_
 rintro e' a' w' ⟨rfl,ar,R',T⟩
 exact ⟨f',h',ar,hk,R',T⟩

theorem uR.trans {B:Nat} {ρ kL:aI} {h h₁:ae} {w mf:World} {K:aq} (T:Tr ρ h w kL h₁ mf):∀e' a' w',uR P N B kL h₁ mf K e' a' w'→uR P N B ρ h w K e' a' w':=by
 rintro e' a' w' ⟨f',h',ar,hk,R,T'⟩
 exact ⟨f',h',ar,hk,R,T.trans T'⟩

theorem tz.weaken {c:Code} {f cE:Nat→Value} {h:ae} {K:aq} (hw:qF cE f) (hr:tz P N out c cE h K):tz P N out c f h K:=
 fun S hS B ρ a w R=>hr S hS B ρ a w (R.weaken hw)

theorem xN.weaken {c:Code} {f cE:Nat→Value} {h:ae} {K:aq} (hw:qF cE f) (hr:xN P N out c cE h K):xN P N out c f h K:=
 fun S hS B ρ a w R=>hr S hS B ρ a w (R.weaken hw)

theorem atc {out:Bool}:∀{c:Code} {hs df:Hints} {ic:dT},eC P N c hs=some (ic,df)→(out=true∨gh c=true)→∀{K:aq} {f:Nat→Value} {h:ae},jS P ic K f h→tz P N out c f h K:=by
 intro c
 induction c with
 | skip=>
  intro hs df ic hc ho K f h hi
  simp [eC] at hc
  obtain ⟨rfl,_⟩:=hc
  exact fun S hS B ρ a w R=>wpIn_skip ⟨f,h,ρ,hi,R,Tr.refl R.heap⟩
 | region id ops draw=>
  intro hs df ic hc ho K f h hi
  cases draw with
  | true=>
   simp only [eC] at hc
   split at hc
   ·rename_i l hl
    split at hc
    ·rename_i sm
     simp at hc
     obtain ⟨rfl,_⟩:=hc
     have gL:=YA (X4 sm) hi
     rw [EC] at gL
     obtain ⟨f',h',r1,r2⟩:=aaj (id:=id) hl gL
     exact r1.n r2
    ·cases hc
   ·cases hc
  | false=>
   simp only [eC] at hc
   split at hc
   ·rename_i l hl
    split at hc
    ·rename_i sm
     simp only [Option.some.injEq] at hc
     have he:ic=(ow (qW l) hs).1:=by rw [hc]
     subst he
     have r1:=aya (i:=0) (os:=ops.toList) (ops:=ops) (fun k o hk=>by simpa using hk) (by rw [EP];exact hl) (aaL sm) hi
     intro S hS B ρ a w R
     refine wpIn_region ?_
     rw [List.range_eq_range']
     have r1':lF P N ops (List.range' 0 ops.size) f h (K .normal):=by simpa using r1
     refine r1' S B ρ a w R _ ?_
     intro f' h' ar a' w' hk R' T
     exact ⟨f',h',ar,hk,R',T⟩
    ·cases hc
   ·simp at hc
    obtain ⟨rfl,_⟩:=hc
    exact (show False from hi).elim
 | seq x y wH wI=>
  intro hs df ic hc ho K f h hi
  have wh:out=true∨gh x=true:=ho.imp id fun h=>by simp only [gh,Bool.and_eq_true] at h;exact h.1
  have wj:out=true∨gh y=true:=ho.imp id fun h=>by simp only [gh,Bool.and_eq_true] at h;exact h.2
  have both:∀{a b:dT} {h0 hO iz:Hints} {ls:List Nat},eC P N x hs=some (a,h0)→eC P N y hO=some (b,iz)→jS P (.seq a (tF ls b)) K f h→tz P N out (.seq x y) f h K:=by
   intro a b h0 hO iz ls ha hb hi
   have r1:=wH ha wh hi
   intro S hS B ρ ac w R
   refine wpIn_seq (wpIn_mono (r1 S hS B ρ ac w R) ?_)
   rintro e' a' w' ⟨cE,h₁,kL,hk,uT,T⟩
   cases e' with
   | normal=>
    obtain ⟨Mf,hw,r3⟩:=XV hk
    exact wpIn_mono (((wI hb wj r3).weaken hw) S hS B kL a' w' uT) (uR.trans T)
   | _=>exact ⟨cE,h₁,kL,hk,uT,T⟩
  simp only [eC] at hc
  split at hc
  ·rename_i a h0 hO ha
   split at hc
   ·rename_i b iz hb
    simp at hc
    obtain ⟨rfl,_⟩:=hc
    exact both ha hb hi
   ·cases hc
  ·rename_i a ha
   split at hc
   ·rename_i b iz hb
    simp at hc
    obtain ⟨rfl,_⟩:=hc
    exact both (ls:=[]) ha hb hi
   ·cases hc
  ·cases hc
 | cond c x y wH wI=>
  intro hs df ic hc ho K f h hi
  have wh:out=true∨gh x=true:=ho.imp id fun h=>by simp only [gh,Bool.and_eq_true] at h;exact h.1
  have wj:out=true∨gh y=true:=ho.imp id fun h=>by simp only [gh,Bool.and_eq_true] at h;exact h.2
  simp only [eC] at hc
  split at hc
  ·rename_i aA
   split at hc
   ·rename_i a hO ha
    split at hc
    ·rename_i b iz hb
     simp at hc
     obtain ⟨rfl,_⟩:=hc
     have hi:mX (ev f c) (jS P a K f h) (jS P b K f h):=hi
     simp only [mX] at hi
     split at hi
     ·rename_i t ht
      have go:tz P N out (if t then x else y) f h K→tz P N out (.cond c x y) f h K:=by
       intro r S hS B ρ ac w R
       have:=R.ev aA
       rw [ht] at this
       exact wpIn_cond this.ve (r S hS B ρ ac w R)
      cases t
      ·simp at hi
       exact go (by simpa using wI hb wj hi)
      ·simp at hi
       exact go (by simpa using wH ha wh hi)
     ·exact hi.elim
    ·cases hc
   ·cases hc
  ·cases hc
 | block id c ih=>
  intro hs df ic hc ho K f h hi
  simp only [eC] at hc
  split at hc
  ·rename_i a hO ha
   simp at hc
   obtain ⟨rfl,_⟩:=hc
   have r1:=ih ha (ho.imp (fun h=>h) fun h=>h) (K:=bz id K) hi
   intro S hS B ρ ac w R
   refine wpIn_block (wpIn_mono (r1 S hS B ρ ac w R) ?_)
   rintro e' a' w' ⟨f',h',ar,hk,R',T⟩
   cases e' with
   | exit i=>
    simp only [Exit.inBlock,bz] at hk⊢
    split <;> rename_i h
    ·rw [if_pos h] at hk;exact ⟨f',h',ar,hk,R',T⟩
    ·rw [if_neg h] at hk;exact ⟨f',h',ar,hk,R',T⟩
   | _=>exact ⟨f',h',ar,hk,R',T⟩
  ·cases hc
 | loop c ih=>
  intro hs df ic hc ho K f h hi
  simp only [eC] at hc
  split at hc
  ·rename_i ks ls hO
   split at hc
   ·rename_i a iz ha
    simp at hc
    obtain ⟨rfl,_⟩:=hc
    obtain ⟨J,μ,h0,Nl⟩:=hi
    have key:∀(n:Nat) (xs:List Value) (hh:ae),μ xs hh=n→J xs hh→xN P N out c (jc (ks++ls) (ks.map f++xs)) hh K:=by
     intro n
     induction n using Nat.strongRecOn with
     | _ n qi=>
      intro xs hh hn hJ
      have r1:=ih ha (ho.imp (fun h=>h) fun h=>h) (Nl xs hh hJ)
      intro S hS B ρ ac w R
      refine oh.round (wpIn_mono (r1 S hS B ρ ac w R) ?_)
      rintro e' a' w' ⟨cE,h₁,kL,hk,uT,T⟩
      cases e' with
      | normal=>
       obtain ⟨hk,Mv,aB⟩:=hk
       have s1:=qi (μ (ls.map cE) h₁) (by omega) (ls.map cE) h₁ rfl Mv
       have s2:xN P N out c cE h₁ K:=s1.weaken (by rw [←hk];exact Gb cE ks ls _ rfl)
       exact (s2 S hS B kL a' w' uT).mono (uR.trans T)
      | _=>exact ⟨cE,h₁,kL,hk,uT,T⟩
    have s1:xN P N out c f h K:=(key _ (ls.map f) h rfl h0).weaken (Gb f ks ls _ rfl)
    exact fun S hS B ρ ac w R=>(s1 S hS B ρ ac w R).wp
   ·cases hc
  ·cases hc
 | exit id=>
  intro hs df ic hc ho K f h hi
  simp [eC] at hc
  obtain ⟨rfl,_⟩:=hc
  exact fun S hS B ρ a w R=>wpIn_exit ⟨f,h,ρ,hi,R,Tr.refl R.heap⟩
 | ret=>
  intro hs df ic hc ho K f h hi
  simp [eC] at hc
  obtain ⟨rfl,_⟩:=hc
  exact fun S hS B ρ a w R=>wpIn_ret ⟨f,h,ρ,hi,R,Tr.refl R.heap⟩
 | rangeFunc g ps iW body=>
  intro hs df ic hc ho K f h hi
  have ho:out=true:=ho.resolve_right (by simp [gh])
  subst ho
  simp only [eC] at hc
  split at hc
  ·rename_i ls hO
   split at hc
   ·rename_i hk
    simp at hc
    obtain ⟨rfl,_⟩:=hc
    simp only [Bool.and_eq_true] at hk
    obtain ⟨h',r1,r2⟩:=agX hk.1 hi
    exact r1.n r2
   ·cases hc
  ·cases hc
 | _=>intro hs df ic hc;simp [eC] at hc

end

def NM (P:Program) (F:FuncId) (args:List Value) (h:ae) (K:Value→ae→Prop):Prop:=
 ∀(ρ:aI) (args':Array Value) (w:World),bn ρ args args'.toList→aU P ρ h w→
  Calls P F args' w fun e w'=>∃v h' v' ar,K v h'∧e=.returned v'∧av ar v v'∧aU P ar h' w'∧Tr ρ h w ar h' w'

theorem asP {P:Program} {F:FuncId} {N:Nat} {ic:dT} {rs:List jf} {hs:Hints} {h:ae} (hc:bp P F hs=some (N,ic,rs)) {args:List Value} (ha:args.length≤N) {K:Value→ae→Prop}
  (hi:jS P ic (KQ rs K) (bk args) h):NM P F args h K:=by
 unfold bp at hc
 split at hc
 ·rename_i fn hf
  split at hc
  ·rename_i c hb
   split at hc
   ·rename_i ic' _ Qz h1 h2
    simp at hc
    obtain ⟨hN,rfl,rfl⟩:=hc
    have r1:=atc (out:=true) h1 (.inl rfl) hi
    intro ρ args' w hv H
    refine callsIn_wide.1 (callsIn_of_wp_marks (F:=Fence.wide) (n:=0) hf hb trivial ?_ rfl)
    have jC:args'.size=args.length:=by have:=hv.length;simpa using this.symm
    have R:Rel P fn.ntmps w.heap.size ρ (bk args) h { tmps:=args'++Array.replicate (fn.ntmps-args'.size) Go.undef,defers:=[] } w:=⟨by simp;omega,Nat.le_refl _,Yw hv fn.ntmps,H⟩
    refine wpIn_mono (r1 none (fun _=>rfl) _ ρ _ w R) ?_
    rintro e' a' w' ⟨f',h',ar,hk,R',T⟩
    have qe:(e'=.normal∨e'=.ret)∧Ha Qz K f' h':=by
     cases e' <;> first | exact ⟨.inl rfl,hk⟩ | exact ⟨.inr rfl,hk⟩ | exact hk.elim
    obtain ⟨he,qe⟩:=qe
    obtain ⟨vs,ue,qe⟩:=Hb qe
    have key:LeavesInM Fence.wide 0 P fn a'.tmps (fun e w'=>∃v h' v' ar,K v h'∧e=.returned v'∧av ar v v'∧aU P ar h' w'∧Tr ρ h w ar h' w') a'.defers .returning w':=by
     refine N7 R'.defers R'.heap T ?_
     intro iQ z9 qM
     have mw:Rel P fn.ntmps 0 ar f' h' { a' with defers:=[] } iQ:=⟨R'.size,Nat.zero_le _,R'.tmp,z9⟩
     obtain ⟨v',q1,q2⟩:=ahg mw h2 ue
     exact ⟨v',q1,pack vs,h',v',ar,qe,rfl,q2,z9,qM⟩
    rcases he with rfl | rfl
    ·exact key
    ·exact key
   ·cases hc
  ·cases hc
 ·cases hc

end Go.Sim

