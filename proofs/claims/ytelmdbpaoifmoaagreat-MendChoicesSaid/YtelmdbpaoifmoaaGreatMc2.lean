/-
  Part 2 of the texts behind a statement of this seat: Sim15, Sim17, Sim18, Sim18b, Sim18c, Sim18d, Sim18e, Sim18f, Sim19, Sim19b, Sim16, Sim20, Sim21, Sim23, Sim24, Sim25, Sim26.
-/
import Derived.ProofKit
import Derived.OpenShut
import Derived.Test.YtelmdbpaoifmoaaGreatMc1
namespace Go.Sim

section
variable {P : Program} {N : Nat}

def fV (P:Program) (N:Nat) (ops:Array Oper) (idx:List Nat) (f:Nat→Value) (h:ae) (f':Nat→Value) (h':ae):Prop:=
 ∀S B ρ a w,Rel P N B ρ f h a w→∀Q:Exit→Act→World→Prop,(∀au a' w',Rel P N B au f' h' a' w'→Tr ρ h w au h' w'→Q .normal a' w')→wpOpsIn (FR S) 0 P ops Q idx a w

theorem fV.nil {ops:Array Oper} {f:Nat→Value} {h:ae}:fV P N ops [] f h f h:=fun _ _ ρ a w R _ hq=>hq ρ a w R (Tr.refl R.heap)

theorem Rel.rS {B:Nat} {ρ au:aF} {f:Nat→Value} {h h':ae} {a:Act} {w w':World} (R:Rel P N B ρ f h a w) {d:Option Nat} (hd:d.all (·<N)=true) {v v':Value} (T:Tr ρ h w au h' w') (hv:aw au v v') (H:aT P au h' w'):
  Rel P N B au (db f d v) h' (a.put d v') w':=by
 cases d with
 | none=>exact R.mono T H
 | some d=>exact R.put (by simpa using hd) T hv H

theorem fV.step {ops:Array Oper} {i:Nat} {idx:List Nat} {o:Oper} {f f':Nat→Value} {h h₁ h':ae} {v:Value} (ho:ops[i]?=some o) (hd:o.dst.all (·<N)=true)
  (hw:∀B ρ a w,Rel P N B ρ f h a w→Region.wanted o (yielded ops a.tmps)=true) (hs:Dj P N o f h v h₁) (hr:fV P N ops idx (db f o.dst v) h₁ f' h'):fV P N ops (i::idx) f h f' h':=by
 intro S B ρ a w R Q hq
 simp only [wpOpsIn,ho]
 rw [if_pos (hw B ρ a w R)]
 refine hs S B ρ a w R _ _ ?_
 intro au v' w' hv H T
 exact hr S B au _ w' (R.rS hd T hv H) Q fun kE pZ iW mG T'=>hq kE pZ iW mG (T.trans T')

theorem fV.pass {ops:Array Oper} {i:Nat} {idx:List Nat} {o:Oper} {f f':Nat→Value} {h h':ae} (ho:ops[i]?=some o) (hd:o.dst.all (·<N)=true)
  (hw:∀B ρ a w,Rel P N B ρ f h a w→Region.wanted o (yielded ops a.tmps)=false) (hr:fV P N ops idx (db f o.dst undef) h f' h'):fV P N ops (i::idx) f h f' h':=by
 intro S B ρ a w R Q hq
 simp only [wpOpsIn,ho]
 rw [if_neg (by rw [hw B ρ a w R];simp)]
 exact ⟨fun _ _=>trivial,hr S B ρ _ w (R.rS hd (Tr.refl R.heap) (aw.undef _) R.heap) Q hq⟩

def qk (g:Option (Nat×Bool)) (f:Nat→Value):Prop:=
 match g with
 | none=>True
 | some (s,_)=>tc (f s)=false

theorem atK {ρ:aF} {v v':Value} (h:aw ρ v v') (hb:tc v=false) (b:Bool):oE v' b=oE v b:=by
 cases h <;> first | rfl | simp [tc] at hb

theorem Fl {v:Value} {b:Bool} {A B:Prop} (h:jr v b A B):tc v=false∧((oE v b=true∧A)∨(oE v b=false∧B)):=by
 unfold jr at h
 split at h
 ·rename_i c
  refine ⟨rfl,?_⟩
  split at h
  ·rename_i hc;exact .inl ⟨hc,h⟩
  ·rename_i hc;exact .inr ⟨by simpa [oE] using hc,h⟩
 ·exact h.elim
 ·rename_i x h1 h2
  have e1:tc v=false:=by
   cases v <;> first | rfl | exact absurd rfl (h2 _ _ _)
  have e2:oE v b=false:=by
   cases v <;> first | rfl | exact absurd rfl (h1 _)
  exact ⟨e1,.inr ⟨e2,h⟩⟩

theorem Cy {ops:Array Oper} {o:Oper} {g:Option (Nat×Bool)} (hg:ES N ops o.guard=some g) {B:Nat} {ρ:aF} {f:Nat→Value} {h:ae} {a:Act} {w:World} (R:Rel P N B ρ f h a w) (hb:qk g f):
  Region.wanted o (yielded ops a.tmps)=gH g f:=by
 unfold ES at hg
 unfold Region.wanted
 cases jv:o.guard with
 | none=>rw [jv] at hg;simp at hg;subst hg;rfl
 | some jb=>
  obtain ⟨j,b⟩:=jb
  rw [jv] at hg
  simp only at hg⊢
  split at hg
  ·rename_i s hs
   split at hg
   ·rename_i aC
    simp at hg;subst hg
    simp only [gH]
    have hr:=R.tmp s
    have jJ:s<a.tmps.size:=by rw [R.size];exact aC
    have bN:a.tmps[s]?=some (a.tmps.getD s Go.undef):=by simp [Array.getD,jJ]
    rw [←atK hr hb b]
    unfold yielded
    rw [hs]
    simp only [Option.bind_some,bN]
    generalize a.tmps.getD s Go.undef=u
    cases u <;> simp [oE]
   ·cases hg
  ·cases hg

def qX (f' f:Nat→Value):Prop:=∀t,f' t=f t∨f' t=bot

theorem Rel.weaken {B:Nat} {ρ:aF} {f f':Nat→Value} {h:ae} {a:Act} {w:World} (R:Rel P N B ρ f h a w) (hw:qX f' f):Rel P N B ρ f' h a w:=
 ⟨R.size,R.defers,fun t=>(hw t).elim (fun e=>by rw [e];exact R.tmp t) (fun e=>by rw [e];exact .any _),R.heap⟩

theorem BZ (f:Nat→Value):∀ls:List Nat,qX (ji ls (ls.map f)) f
 | [],t=>.inr rfl
 | l::ls,t=>by
  simp only [List.map_cons,avg]
  by_cases h:t=l
  ·subst h;simp
  ·rw [if_neg h];exact BZ f ls t

theorem fV.weaken {ops:Array Oper} {idx:List Nat} {f cL f':Nat→Value} {h h':ae} (hw:qX cL f) (hr:fV P N ops idx cL h f' h'):fV P N ops idx f h f' h':=
 fun S B ρ a w R=>hr S B ρ a w (R.weaken hw)

theorem fL.weaken {b:Bool} {c:Code} {f cL f':Nat→Value} {h h':ae} {e:Exit} (hw:qX cL f) (hr:fL P N b c cL h e f' h'):fL P N b c f h e f' h':=
 fun S hS B ρ a w R=>hr S hS B ρ a w (R.weaken hw)

theorem se {S:Option Nat} {ops:Array Oper} {Q:Exit→Act→World→Prop}:∀{i j:List Nat} {a:Act} {w:World},wpOpsIn (FR S) 0 P ops (fun e a w=>match e with | .normal=>wpOpsIn (FR S) 0 P ops Q j a w | e=>Q e a w) i a w→wpOpsIn (FR S) 0 P ops Q (i++j) a w
 | [],j,a,w,h=>h
 | i::is,j,a,w,h=>by
  simp only [List.cons_append,wpOpsIn] at h⊢
  cases ho:ops[i]? with
  | none=>rw [ho] at h;exact se h
  | some o=>
   rw [ho] at h
   simp only at h⊢
   split at h
   ·rename_i hw
    rw [if_pos hw]
    obtain ⟨h0,h⟩:=h
    refine ⟨h0,?_⟩
    generalize (o.semAt (FR S).round a.eval).run P w=r at h⊢
    cases r with
    | ok x w'=>
     cases x <;> simp only [Oper.uponIn] at h⊢
     ·exact se h
     ·exact se h
     ·refine ⟨h.1,h.2.mono ?_⟩
      rintro e iW hR
      cases e with
      | returned v=>exact se hR
      | panicked chain=>exact hR
      | outgrown=>exact hR
     ·refine ⟨h.1,h.2.mono ?_⟩
      rintro e iW hR
      cases e with
      | returned v=>exact se hR
      | panicked chain=>exact hR
      | outgrown=>exact hR
     ·exact se h
     ·refine ⟨h.1,h.2.mono ?_⟩
      rintro v iW hR
      exact se hR
    | halt x w'=>
     cases x <;> simp only [Oper.uponIn] at h⊢
     exact h
   ·rename_i hw
    rw [if_neg hw]
    exact ⟨h.1,se h.2⟩

theorem fV.append {ops:Array Oper} {i j:List Nat} {f cL f':Nat→Value} {h h₁ h':ae} (a:fV P N ops i f h cL h₁) (b:fV P N ops j cL h₁ f' h'):fV P N ops (i++j) f h f' h':=by
 intro S B ρ ac w R Q hq
 refine se (a S B ρ ac w R _ ?_)
 intro au a' w' R' T
 exact b S B au a' w' R' Q fun kE pZ iW mG T'=>hq kE pZ iW mG (T.trans T')

theorem AH {ops:Array Oper} {o:Oper} {x:gM} (h:vH P N ops o=some x):
  o.op.operands.all iy=true∧o.dst.all (·<N)=true∧sv P o.op=some x.op∧ES N ops o.guard=some x.guard∧x.dst=o.dst:=by
 unfold vH at h
 split at h
 ·rename_i hc
  simp only [Bool.and_eq_true] at hc
  split at h
  ·rename_i op g h1 h2
   simp at h;subst h
   exact ⟨hc.1,hc.2,h1,h2,rfl⟩
  ·cases h
 ·cases h

theorem su {ops:Array Oper} {o:Oper} {os:List Oper} {l:List gM} (h:jT P N ops (o::os)=some l):∃x xs,vH P N ops o=some x∧jT P N ops os=some xs∧l=x::xs:=by
 simp only [jT] at h
 split at h
 ·rename_i x xs h1 h2
  simp at h
  exact ⟨x,xs,h1,h2,h.symm⟩
 ·cases h

theorem F4 {ops:Array Oper}:∀{os:List Oper} {l:List gM} {i:Nat} {K:(Nat→Value)→ae→Prop} {f:Nat→Value} {h:ae},(∀(k:Nat) (o:Oper),os[k]?=some o→ops[i+k]?=some o)→jT P N ops os=some l→qH P l K f h→
  ∃f' h',fV P N ops (List.range' i os.length) f h f' h'∧K f' h'
 | [],l,i,K,f,h,_,hc,hi=>by
  simp [jT] at hc
  subst hc
  exact ⟨f,h,fV.nil,hi⟩
 | o::os,l,i,K,f,h,oh,hc,hi=>by
  obtain ⟨x,xs,h1,h2,rfl⟩:=su hc
  obtain ⟨q1,q2,q3,q4,q5⟩:=AH h1
  have ho:ops[i]?=some o:=oh 0 o rfl
  have FN:∀(k:Nat) (o':Oper),os[k]?=some o'→ops[i+1+k]?=some o':=by
   intro k o' hk
   have:=oh (k+1) o' (by simpa using hk)
   rw [show i+(k+1)=i+1+k by omega] at this
   exact this
  have go:∀(_:qk x.guard f) (_:gH x.guard f=true),cQ P x.op f h (fun v h'=>qH P xs K (db f x.dst v) h')→
    ∃f' h',fV P N ops (List.range' i (o::os).length) f h f' h'∧K f' h':=by
   intro hb hw hs
   obtain ⟨v,h',dM,hk⟩:=xl (N:=N) q3 q1 hs
   obtain ⟨AN,aS,r1,r2⟩:=F4 FN h2 hk
   refine ⟨AN,aS,?_,r2⟩
   rw [List.length_cons,List.range'_succ]
   rw [q5] at r1
   exact fV.step ho q2 (fun B ρ a w R=>by rw [Cy q4 R hb,hw]) dM r1
  have skip:∀(_:qk x.guard f) (_:gH x.guard f=false),qH P xs K (db f x.dst undef) h→
    ∃f' h',fV P N ops (List.range' i (o::os).length) f h f' h'∧K f' h':=by
   intro hb hw hs
   obtain ⟨AN,aS,r1,r2⟩:=F4 FN h2 hs
   refine ⟨AN,aS,?_,r2⟩
   rw [List.length_cons,List.range'_succ]
   rw [q5] at r1
   exact fV.pass ho q2 (fun B ρ a w R=>by rw [Cy q4 R hb,hw]) r1
  simp only [qH] at hi
  split at hi
  ·rename_i jv
   exact go (by rw [jv];trivial) (by rw [jv];rfl) hi
  ·rename_i s b jv
   obtain ⟨e1,e2⟩:=Fl hi
   rcases e2 with ⟨e2,e3⟩ | ⟨e2,e3⟩
   ·exact go (by rw [jv];exact e1) (by rw [jv];exact e2) e3
   ·exact skip (by rw [jv];exact e1) (by rw [jv];exact e2) e3

def nX (g:Option (Nat×Bool)) (l:List hC):List gM:=l.map fun o=>⟨o.dst,o.op,g⟩

def lZ:List (Option (Nat×Bool)×List hC)→List gM
 | []=>[]
 | (g,l)::gs=>nX g l++lZ gs

theorem Fa:∀os:List gM,lZ (ru os)=os
 | []=>rfl
 | o::os=>by
  have ih:=Fa os
  simp only [ru]
  cases hg:ru os with
  | nil=>
   rw [hg] at ih
   simp only [lZ] at ih
   subst ih
   simp [lZ,nX]
  | cons a gs=>
   obtain ⟨g,l⟩:=a
   rw [hg] at ih
   simp only
   split
   ·rename_i he
    simp only [lZ,nX,List.map_cons,List.cons_append] at ih⊢
    rw [ih,←he]
   ·simp only [lZ,nX,List.map_cons,List.map_nil,List.cons_append,List.nil_append] at ih⊢
    rw [ih]

theorem MU {v:Value} {b:Bool} {A B:Prop} (hb:tc v=false) (hA:oE v b=true→A) (hB:oE v b=false→B):jr v b A B:=by
 unfold jr
 split
 ·split
  ·rename_i c hc;exact hA hc
  ·rename_i c hc;exact hB (by simpa [oE] using hc)
 ·simp [tc] at hb
 ·rename_i x h1 h2
  refine hB ?_
  cases v <;> first | rfl | exact absurd rfl (h1 _)

theorem ady {g:Option (Nat×Bool)} {K:(Nat→Value)→ae→Prop}:∀{l:List hC} {f:Nat→Value} {h:ae},(∀o∈l,leaves g o.dst=true)→qO P g l K f h→qH P (nX g l) K f h:=by
 intro l f h hl hk
 cases g with
 | none=>
  simp only [qO] at hk
  clear hl
  induction l generalizing f h with
  | nil=>exact hk
  | cons o l ih=>
   simp only [ue] at hk
   simp only [nX,List.map_cons,qH]
   have:cQ P o.op f h (fun v h'=>qH P (nX none l) K (db f o.dst v) h'):=by
    have mono:∀{io:fU} {K K':Value→ae→Prop},(∀v h,K v h→K' v h)→cQ P io f h K→cQ P io f h K':=by
     intro io K K' hm hs
     cases io with
     | p po=>simp only [cQ,eO] at hs⊢;split at hs <;> first | exact hm _ _ hs | exact hs.elim
     | l lo=>simp only [cQ,eO] at hs⊢;split at hs <;> first | exact hm _ _ hs | exact hs.elim
     | e eo=>simp only [cQ,lL] at hs⊢;split at hs <;> first | exact hm _ _ hs | exact hs.elim
     | call g args=>exact hs.mono hm
     | jE x args=>simp only [cQ,rh] at hs⊢;split at hs <;> first | exact ⟨hs.1,hs.2.mono hm⟩ | exact hs.elim
    exact mono (fun v h' bV=>ih bV) hk
   exact this
 | some sb=>
  obtain ⟨s,b⟩:=sb
  simp only [qO] at hk
  obtain ⟨e1,e2⟩:=Fl hk
  clear hk
  induction l generalizing f h with
  | nil=>
   rcases e2 with ⟨_,e⟩ | ⟨_,e⟩ <;> exact e
  | cons o l ih=>
   have hd:o.dst≠some s:=by simpa [leaves] using hl o (by simp)
   have hs:∀v,db f o.dst v s=f s:=by
    intro v
    cases ho:o.dst with
    | none=>rfl
    | some d=>
     have:s≠d:=by rintro rfl;exact hd ho
     simp [db,qV,this]
   simp only [nX,List.map_cons,qH]
   refine MU e1 (fun hb=>?_) (fun hb=>?_)
   ·rcases e2 with ⟨_,e⟩ | ⟨e,_⟩
    ·simp only [ue] at e
     have mono:∀{io:fU} {K K':Value→ae→Prop},(∀v h,K v h→K' v h)→cQ P io f h K→cQ P io f h K':=by
      intro io K K' hm hs
      cases io with
      | p po=>simp only [cQ,eO] at hs⊢;split at hs <;> first | exact hm _ _ hs | exact hs.elim
      | l lo=>simp only [cQ,eO] at hs⊢;split at hs <;> first | exact hm _ _ hs | exact hs.elim
      | e eo=>simp only [cQ,lL] at hs⊢;split at hs <;> first | exact hm _ _ hs | exact hs.elim
      | call g args=>exact hs.mono hm
      | jE x args=>simp only [cQ,rh] at hs⊢;split at hs <;> first | exact ⟨hs.1,hs.2.mono hm⟩ | exact hs.elim
     refine mono (fun v h' bV=>?_) e
     exact ih (fun o' de=>hl o' (by simp [de])) (by rw [hs];exact e1) (.inl ⟨by rw [hs];exact hb,bV⟩)
    ·rw [hb] at e;cases e
   ·rcases e2 with ⟨e,_⟩ | ⟨_,e⟩
    ·rw [hb] at e;cases e
    ·exact ih (fun o' de=>hl o' (by simp [de])) (by rw [hs];exact e1) (.inr ⟨by rw [hs];exact hb,e⟩)

theorem L6 {ops:Array Oper}:∀{os:List Oper} {m0 m1:List gM},jT P N ops os=some (m0++m1)→∃j9 fH,os=j9++fH∧jT P N ops j9=some m0∧jT P N ops fH=some m1
 | os,[],m1,h=>⟨[],os,rfl,rfl,h⟩
 | [],x::m0,m1,h=>by simp [jT] at h
 | o::os,x::m0,m1,h=>by
  obtain ⟨y,ys,h1,h2,he⟩:=su h
  simp only [List.cons_append,List.cons.injEq] at he
  obtain ⟨rfl,rfl⟩:=he
  obtain ⟨j9,fH,rfl,e1,e2⟩:=L6 h2
  refine ⟨o::j9,fH,rfl,?_,e2⟩
  simp [jT,h1,e1]

theorem Yk {ls:List Nat} {c:dX} {K:Exit→(Nat→Value)→ae→Prop} {f:Nat→Value} {h:ae} (hi:gR P (tU ls c) K f h):∃f',qX f' f∧gR P c K f' h:=by
 cases ls with
 | nil=>exact ⟨f,fun _=>.inl rfl,hi⟩
 | cons l ls=>exact ⟨_,BZ f (l::ls),hi⟩

theorem ayV {ops:Array Oper}:∀{gs:List (Option (Nat×Bool)×List hC)} {hs:Hints} {os:List Oper} {i:Nat} {K:Exit→(Nat→Value)→ae→Prop} {f:Nat→Value} {h:ae},
  (∀(k:Nat) (o:Oper),os[k]?=some o→ops[i+k]?=some o)→jT P N ops os=some (lZ gs)→(∀g l,(g,l)∈gs→∀o∈l,leaves g o.dst=true)→gR P (oJ gs hs).1 K f h→
  ∃f' h',fV P N ops (List.range' i os.length) f h f' h'∧K .normal f' h':=by
 intro gs
 induction gs with
 | nil=>
  intro hs os i K f h oh hc _ hi
  cases os with
  | nil=>exact ⟨f,h,fV.nil,hi⟩
  | cons o os=>
   obtain ⟨x,xs,_,_,he⟩:=su hc
   simp [lZ] at he
 | cons a gs ih=>
  obtain ⟨g,l⟩:=a
  intro hs os i K f h oh hc hl hi
  simp only [lZ] at hc
  obtain ⟨j9,fH,rfl,c0,c1⟩:=L6 hc
  have FO:∀(k:Nat) (o:Oper),j9[k]?=some o→ops[i+k]?=some o:=by
   intro k o hk
   refine oh k o ?_
   rw [List.getElem?_append_left (List.getElem?_eq_some_iff.1 hk).1]
   exact hk
  have NB:∀(k:Nat) (o:Oper),fH[k]?=some o→ops[i+j9.length+k]?=some o:=by
   intro k o hk
   rw [Nat.add_assoc]
   refine oh _ o ?_
   rw [List.getElem?_append_right (by omega)]
   simpa using hk
  have first:∀{K:(Nat→Value)→ae→Prop},qO P g l K f h→∃f' h',fV P N ops (List.range' i j9.length) f h f' h'∧K f' h':=by
   intro K hk
   exact F4 FO c0 (ady (fun o ho=>hl g l (by simp) o ho) hk)
  have both:∀{cL:Nat→Value} {h₁:ae} {f':Nat→Value} {h':ae},fV P N ops (List.range' i j9.length) f h cL h₁→fV P N ops (List.range' (i+j9.length) fH.length) cL h₁ f' h'→fV P N ops (List.range' i (j9++fH).length) f h f' h':=by
   intro cL h₁ f' h' a b
   rw [List.length_append,←List.range'_append_1]
   exact a.append b
  have rest:∀{hs:Hints} {cL:Nat→Value} {h₁:ae},gR P (oJ gs hs).1 K cL h₁→∃f' h',fV P N ops (List.range' (i+j9.length) fH.length) cL h₁ f' h'∧K .normal f' h':=
   fun hk=>ih NB c1 (fun g' l' hm=>hl g' l' (by simp [hm])) hk
  cases gs with
  | nil=>
   have Bq:gR P (.ops g l) K f h:=by
    cases hs <;> exact hi
   obtain ⟨f',h',r1,r2⟩:=first Bq
   have h1:fH=[]:=by
    cases fH with
    | nil=>rfl
    | cons o os=>obtain ⟨x,xs,_,_,he⟩:=su c1;simp [lZ] at he
   subst h1
   exact ⟨f',h',by simpa using r1,r2⟩
  | cons b gs=>
   cases hs with
   | nil=>
    obtain ⟨cL,h₁,r1,r2⟩:=first (K:=fun f h=>gR P (oJ (b::gs) []).1 K f h) hi
    obtain ⟨f',h',s1,s2⟩:=rest r2
    exact ⟨f',h',both r1 s1,s2⟩
   | cons h0 hs=>
    obtain ⟨cL,h₁,r1,r2⟩:=first (K:=fun f h=>gR P (tU h0 (oJ (b::gs) hs).1) K f h) hi
    obtain ⟨MF,hw,r3⟩:=Yk r2
    obtain ⟨f',h',s1,s2⟩:=rest r3
    exact ⟨f',h',both r1 (s1.weaken hw),s2⟩

def oG (S:Option Nat) (P:Program) (c:Code) (Q:Exit→Act→World→Prop) (a:Act) (w:World):Prop:=
 ∀(b:Frame) (k:List Item) (cs:List Frame),b.roundOf=S→
  ∃e a' w',Q e a' w'∧ArrivesIn (Machine.fenced P (FR S)) P (lone (b.atR a (.code c:: .inLoop c::k)) cs w) b k cs e a' w'

theorem FR.room (S:Option Nat) (n:Nat):(FR S).room n:=fun _ h=>by cases h

theorem oG.wp {S:Option Nat} {c:Code} {Q:Exit→Act→World→Prop} {a:Act} {w:World} (h:oG S P c Q a w):(Code.loop c).wpIn (FR S) 0 P Q a w:=by
 intro b k cs fR hb hr
 obtain ⟨e,a',w',q,r⟩:=h b k cs fR
 exact ⟨e,a',w',q,.of_steps (.one (fenced_calm hb hr rfl) stepR_loop) r⟩

theorem oG.round {S:Option Nat} {c:Code} {Q:Exit→Act→World→Prop} {a:Act} {w:World} (h:c.wpIn (FR S) 0 P (Exit.then (oG S P c Q) Q) a w):oG S P c Q a w:=by
 intro b k cs fR
 have hb:(FR S).fn b.fn:=trivial
 have hr:(FR S).room (cs.length+1+0):=FR.room S _
 obtain ⟨e,vA,mB,hq,uf⟩:=h b (.inLoop c::k) cs fR hb hr
 cases e with
 | normal=>
  obtain ⟨arN,amz,Ij,as1,asl⟩:=hq b k cs fR
  exact ⟨arN,amz,Ij,as1,.of_steps (StepsIn.trans uf (.one (fenced_calm hb hr rfl) stepR_inLoop)) asl⟩
 | exit id=>exact ⟨_,vA,mB,hq,.pass (x:=.inLoop c) rfl (fun _ _=>.inl (by simp)) uf⟩
 | goto l=>exact ⟨_,vA,mB,hq,.pass (x:=.inLoop c) rfl (fun _ _=>.inl (by simp)) uf⟩
 | ret=>exact ⟨_,vA,mB,hq,.pass (x:=.inLoop c) rfl (fun _ _=>.inl (by simp)) uf⟩
 | panic ch=>exact ⟨_,vA,mB,hq,.pass (x:=.inLoop c) rfl (fun _ _=>.inl (by simp)) uf⟩
 | outgrown=>exact ⟨_,vA,mB,hq,.pass (x:=.inLoop c) rfl (fun _ _=>.inl (by simp)) uf⟩

theorem abb {l:List gM} (h:l.all (fun o=>leaves o.guard o.dst)=true):∀g m,(g,m)∈ru l→∀o∈m,leaves g o.dst=true:=by
 intro g m hm o ho
 have rE:(⟨o.dst,o.op,g⟩:gM)∈lZ (ru l):=by
  generalize ru l=gs at hm
  induction gs with
  | nil=>simp at hm
  | cons a gs ih=>
   obtain ⟨g',m'⟩:=a
   simp only [lZ,List.mem_append]
   rcases List.mem_cons.1 hm with he | hm
   ·cases he
    left
    simp only [nX,List.mem_map]
    exact ⟨o,ho,rfl⟩
   ·exact .inr (ih hm)
 rw [Fa] at rE
 rw [List.all_eq_true] at h
 exact h _ rE

def nQ (P:Program) (N:Nat) (out:Bool) (c:Code) (f:Nat→Value) (h:ae) (e:Exit) (f':Nat→Value) (h':ae):Prop:=
 ∀S,(out=true→S=none)→∀B ρ a w,Rel P N B ρ f h a w→oG S P c (vf P N B ρ h w e f' h') a w

theorem oG.mono {S:Option Nat} {c:Code} {Q Q':Exit→Act→World→Prop} {a:Act} {w:World} (h:oG S P c Q a w) (hq:∀e a w,Q e a w→Q' e a w):oG S P c Q' a w:=
 fun b k cs fR=>let ⟨e,a',w',q,r⟩:=h b k cs fR;⟨e,a',w',hq _ _ _ q,r⟩

theorem vf.trans {B:Nat} {ρ kY:aF} {h h₁ h':ae} {w mB:World} {e:Exit} {f':Nat→Value} (T:Tr ρ h w kY h₁ mB):∀e' a' w',vf P N B kY h₁ mB e f' h' e' a' w'→vf P N B ρ h w e f' h' e' a' w':=by
 rintro e' a' w' ⟨rfl,au,R,T'⟩
 exact ⟨rfl,au,R,T.trans T'⟩

variable {out : Bool}

theorem nQ.next {c:Code} {f cL f':Nat→Value} {h h₁ h':ae} {e:Exit} (a:fL P N out c f h .normal cL h₁) (b:nQ P N out c cL h₁ e f' h'):nQ P N out c f h e f' h':=by
 intro S hS B ρ ac w R
 refine oG.round (wpIn_mono (a S hS B ρ ac w R) ?_)
 rintro e' a' w' ⟨rfl,au,R',T⟩
 exact (b S hS B au a' w' R').mono (vf.trans T)

theorem nQ.leave {c:Code} {f f':Nat→Value} {h h':ae} {e:Exit} (he:e≠ .normal) (a:fL P N out c f h e f' h'):nQ P N out c f h e f' h':=by
 intro S hS B ρ ac w R
 refine oG.round (wpIn_mono (a S hS B ρ ac w R) ?_)
 rintro e' a' w' ⟨rfl,au,R',T⟩
 cases e' <;> first | exact absurd rfl he | exact ⟨rfl,au,R',T⟩

theorem nQ.run {c:Code} {f f':Nat→Value} {h h':ae} {e:Exit} (a:nQ P N out c f h e f' h'):fL P N out (.loop c) f h e f' h':=fun S hS B ρ ac w R=>(a S hS B ρ ac w R).wp

theorem fL.seq {x y:Code} {f cL f':Nat→Value} {h h₁ h':ae} {e:Exit} (a:fL P N out x f h .normal cL h₁) (b:fL P N out y cL h₁ e f' h'):fL P N out (.seq x y) f h e f' h':=by
 intro S hS B ρ ac w R
 refine wpIn_seq (wpIn_mono (a S hS B ρ ac w R) ?_)
 rintro e' a' w' ⟨rfl,au,R',T⟩
 exact wpIn_mono (b S hS B au a' w' R') (vf.trans T)

theorem fL.azJ {x y:Code} {f f':Nat→Value} {h h':ae} {e:Exit} (he:e≠ .normal) (a:fL P N out x f h e f' h'):fL P N out (.seq x y) f h e f' h':=by
 intro S hS B ρ ac w R
 refine wpIn_seq (wpIn_mono (a S hS B ρ ac w R) ?_)
 rintro e' a' w' ⟨rfl,au,R',T⟩
 cases e' <;> first | exact absurd rfl he | exact ⟨rfl,au,R',T⟩

theorem fL.block {id:Nat} {c:Code} {f f':Nat→Value} {h h':ae} {e:Exit} (a:fL P N out c f h e f' h'):fL P N out (.block id c) f h (match e with | .exit i=>if i=id then .normal else .exit i | e=>e) f' h':=by
 intro S hS B ρ ac w R
 refine wpIn_block (wpIn_mono (a S hS B ρ ac w R) ?_)
 rintro e' a' w' ⟨rfl,au,R',T⟩
 cases e' with
 | exit i=>
  simp only [Exit.inBlock]
  split
  ·exact ⟨rfl,au,R',T⟩
  ·exact ⟨rfl,au,R',T⟩
 | _=>exact ⟨rfl,au,R',T⟩

theorem fL.cond {c:Operand} {x y:Code} {t:Bool} {f f':Nat→Value} {h h':ae} {e:Exit} (hc:iy c=true) (ht:ev f c=.bool t) (a:fL P N out (if t then x else y) f h e f' h'):fL P N out (.cond c x y) f h e f' h':=by
 intro S hS B ρ ac w R
 have:=R.ev hc
 rw [ht] at this
 exact wpIn_cond this.vC (a S hS B ρ ac w R)

theorem fL.region {id:Nat} {ops:Array Oper} {f f':Nat→Value} {h h':ae} (a:fV P N ops (List.range ops.size) f h f' h'):fL P N out (.region id ops false) f h .normal f' h':=by
 intro S hS B ρ ac w R
 refine wpIn_region (a S B ρ ac w R _ ?_)
 intro au a' w' R' T
 exact ⟨rfl,au,R',T⟩

theorem nQ.weaken {c:Code} {f cL f':Nat→Value} {h h':ae} {e:Exit} (hw:qX cL f) (hr:nQ P N out c cL h e f' h'):nQ P N out c f h e f' h':=
 fun S hS B ρ a w R=>hr S hS B ρ a w (R.weaken hw)

end
end Go.Sim


namespace Go.Sim

inductive Valid (ops:Array Oper):List Nat→List Nat→Prop
 | nil {S:List Nat}:(∀i,i<ops.size→i∈S)→Valid ops S []
 | cons {S:List Nat} {i:Nat} {o:Oper} {l:List Nat}:ops[i]?=some o→i∉S→(∀e∈eG o,e∈S)→Valid ops (i::S) l→Valid ops S (i::l)

theorem Ds:∀{ops:List Oper} {i:Nat},vB ops i=true→∀(k:Nat) (o:Oper),ops[k]?=some o→∀e∈eG o,e<i+k
 | [],i,_,k,o,hk=>by simp at hk
 | x::ops,i,h,k,o,hk=>by
  simp only [vB,Bool.and_eq_true,List.all_eq_true,decide_eq_true_eq] at h
  cases k with
  | zero=>simp at hk;subst hk;exact h.1
  | succ k=>
   intro e he
   have:=Ds h.2 k o (by simpa using hk) e he
   omega

def ready (ops:Array Oper) (gr:Array Bool) (i:Nat):Bool:=
 !gr.getD i true&&((ops[i]?).map (·.after.all fun e=> !Region.binds .any e||gr.getD e.on false)).getD false

theorem go_eq (ops:Array Oper) (fuel t:Nat) (gr:Array Bool) (acc:List Nat):
  Region.linearise.go .any ops (fuel+1) t gr acc=
   match ((List.range ops.size).filter (ready ops gr))[t%((List.range ops.size).filter (ready ops gr)).length]? with
   | some i=>Region.linearise.go .any ops fuel (t / ((List.range ops.size).filter (ready ops gr)).length) (gr.setIfInBounds i true) (i::acc)
   | none=>acc.reverse:=by
 rw [Region.linearise.go]
 rfl

theorem aho {ops:Array Oper} {gr:Array Bool} {S:List Nat} (hl:gr.size=ops.size) (hS:∀i,i<ops.size→(gr.getD i false=true↔i∈S)) (hb:∀(k:Nat) (o:Oper),ops[k]?=some o→∀e∈eG o,e<k)
  {i:Nat} (hi:i<ops.size):ready ops gr i=true↔i∉S∧∀o,ops[i]?=some o→∀e∈eG o,e∈S:=by
 have ho:ops[i]?=some ops[i]:=by simp [hi]
 have e1:gr.getD i true=gr.getD i false:=by simp [Array.getD,hl,hi]
 unfold ready
 rw [e1,ho]
 simp only [Option.map_some,Option.getD_some,Bool.and_eq_true,Bool.not_eq_true',Option.some.injEq,forall_eq']
 have h1:gr.getD i false=false↔i∉S:=by
  rw [←hS i hi]
  cases gr.getD i false <;> simp
 rw [h1]
 refine and_congr_right fun _=>?_
 rw [Array.all_eq_true']
 constructor
 ·intro h e he
  have aC:=hb i _ ho e he
  unfold eG at he
  simp only [List.mem_filterMap] at he
  obtain ⟨x,hx,uC⟩:=he
  split at uC
  ·rename_i yx
   simp at uC
   subst uC
   have:=h x (by simpa using hx)
   simp only [Bool.or_eq_true,Bool.not_eq_true',yx] at this
   exact (hS _ (by omega)).1 (by simpa using this)
  ·cases uC
 ·intro h x hx
  cases yx:Region.binds .any x with
  | false=>simp
  | true=>
   have hm:x.on∈eG ops[i]:=by
    unfold eG
    simp only [List.mem_filterMap]
    exact ⟨x,by simpa using hx,by simp [yx]⟩
   have aC:=hb i _ ho _ hm
   simp [(hS x.on (by omega)).2 (h _ hm)]

theorem Gt:∀{l m:List Nat},l.Nodup→l ⊆ m→l.length≤m.length
 | [],m,_,_=>by simp
 | x::l,m,hd,hs=>by
  have hx:x∈m:=hs (by simp)
  rw [List.nodup_cons] at hd
  have h1:l ⊆ m.erase x:=by
   intro y hy
   have br:y≠x:=by rintro rfl;exact hd.1 hy
   exact (List.mem_erase_of_ne br).2 (hs (by simp [hy]))
  have h2:=Gt hd.2 h1
  rw [List.length_erase_of_mem hx] at h2
  have:0<m.length:=List.length_pos_of_mem hx
  simp
  omega

theorem aqu {n:Nat} {S:List Nat} (hlen:S.length<n):∃i,i<n∧i∉S∧∀k,k<i→k∈S:=by
 have hex:∃i,i<n∧i∉S:=by
  apply Classical.byContradiction
  intro cW
  have eW:∀i,i<n→i∈S:=fun i hi=>Classical.byContradiction fun h=>cW ⟨i,hi,h⟩
  have pB:List.range n ⊆ S:=fun i hi=>eW i (List.mem_range.1 hi)
  have:=Gt (List.nodup_range (n:=n)) pB
  simp at this
  omega
 have key:∀m,(∃i,i<m∧i<n∧i∉S)→∃i,i<n∧i∉S∧∀k,k<i→k∈S:=by
  intro m
  induction m with
  | zero=>rintro ⟨i,h,_⟩;omega
  | succ m ih=>
   rintro ⟨i,h1,h2,h3⟩
   by_cases dL:∃i,i<m∧i<n∧i∉S
   ·exact ih dL
   ·have mN:i=m:=by
     by_cases e:i=m
     ·exact e
     ·exact absurd ⟨i,by omega,h2,h3⟩ dL
    subst mN
    refine ⟨i,h2,h3,fun k hk=>Classical.byContradiction fun Bh=>dL ⟨k,hk,by omega,Bh⟩⟩
 obtain ⟨i,h1,h2⟩:=hex
 exact key n ⟨i,h1,h1,h2⟩

theorem Y5 {ops:Array Oper} (hb:∀(k:Nat) (o:Oper),ops[k]?=some o→∀e∈eG o,e<k):∀(fuel t:Nat) (gr:Array Bool) (acc:List Nat),gr.size=ops.size→
  (∀i,i<ops.size→(gr.getD i false=true↔i∈acc))→acc.Nodup→(∀i∈acc,i<ops.size)→acc.length+fuel=ops.size→
  ∃l,Region.linearise.go .any ops fuel t gr acc=acc.reverse++l∧Valid ops acc l
 | 0,t,gr,acc,hl,hS,hd,aC,hf=>by
  refine ⟨[],by simp [Region.linearise.go],.nil ?_⟩
  intro i hi
  apply Classical.byContradiction
  intro h
  have pB:(i::acc) ⊆ List.range ops.size:=by
   intro x hx
   rcases List.mem_cons.1 hx with rfl | hx
   ·simpa using hi
   ·simpa using aC x hx
  have:=Gt (List.nodup_cons.2 ⟨h,hd⟩) pB
  simp at this
  omega
 | fuel+1,t,gr,acc,hl,hS,hd,aC,hf=>by
  rw [go_eq]
  obtain ⟨i0,FC,asC,asB⟩:=aqu (n:=ops.size) (S:=acc) (by omega)
  have qB:ready ops gr i0=true:=(aho hl hS hb FC).2 ⟨asC,fun o ho e he=>asB e (hb i0 o ho e he)⟩
  have fQ:0<((List.range ops.size).filter (ready ops gr)).length:=List.length_pos_of_mem (List.mem_filter.2 ⟨List.mem_range.2 FC,qB⟩)
  have bN:∃i,((List.range ops.size).filter (ready ops gr))[t%((List.range ops.size).filter (ready ops gr)).length]?=some i:=⟨_,List.getElem?_eq_getElem (Nat.mod_lt _ fQ)⟩
  obtain ⟨i,hi⟩:=bN
  rw [hi]
  have rE:=List.mem_of_getElem? hi
  simp only [List.mem_filter,List.mem_range] at rE
  obtain ⟨iQ,as3⟩:=rE
  obtain ⟨sP,wh⟩:=(aho hl hS hb iQ).1 as3
  obtain ⟨l,h1,h2⟩:=Y5 hb fuel (t / ((List.range ops.size).filter (ready ops gr)).length) (gr.setIfInBounds i true) (i::acc) (by simpa using hl) (by
   intro k hk
   by_cases e:k=i
   ·subst e;simp [Array.getD,hl,hk]
   ·have:(gr.setIfInBounds i true).getD k false=gr.getD k false:=by
     simp only [Array.getD_eq_getD_getElem?,Array.getElem?_setIfInBounds]
     rw [if_neg (Ne.symm e)]
    rw [this,hS k hk]
    simp [e]) (List.nodup_cons.2 ⟨sP,hd⟩) (by
   intro k hk
   rcases List.mem_cons.1 hk with rfl | hk
   ·exact iQ
   ·exact aC k hk) (by simp;omega)
  refine ⟨i::l,by simp only [h1];simp,?_⟩
  exact .cons (o:=ops[i]) (by simp [iQ]) sP (wh _ (by simp [iQ])) h2

theorem abd {ops:Array Oper} (hb:vB ops.toList 0=true) (t:Nat):Valid ops [] (Region.linearise .any ops t):=by
 have jH:∀(k:Nat) (o:Oper),ops[k]?=some o→∀e∈eG o,e<k:=by
  intro k o hk e he
  have:=Ds hb k o (by simpa using hk) e he
  omega
 obtain ⟨l,h1,h2⟩:=Y5 jH ops.size t (Array.replicate ops.size false) [] (by simp) (by intro i hi;simp [Array.getD,hi]) .nil (by simp) (by simp)
 have:Region.linearise .any ops t=l:=by
  unfold Region.linearise
  rw [h1]
  simp
 rw [this]
 exact h2

end Go.Sim


namespace Go.Sim


theorem Mq {f f':Nat→Value}:∀{l:List Operand},(∀t∈tmpsOf l,f t=f' t)→∀x∈l,ev f x=ev f' x
 | [],_,x,hx=>by simp at hx
 | y::l,h,x,hx=>by
  have h':∀t∈tmpsOf l,f t=f' t:=by
   intro t ht
   apply h
   cases y <;> simp [tmpsOf,ht]
  rcases List.mem_cons.1 hx with rfl | hx
  ·cases x with
   | tmp t=>exact h t (by simp [tmpsOf])
   | _=>rfl
  ·exact Mq h' x hx

theorem BU {g g':Operand→Value} {xs:List Operand} (h:∀x∈xs,g x=g' x):xs.map g=xs.map g':=List.map_congr_left h

theorem GA {g g':Operand→Value} {x:Option Operand} (h:∀y∈x.toList,g y=g' y):x.map g=x.map g':=by
 cases x with
 | none=>rfl
 | some y=>simp [h y (by simp)]

theorem Hb {g g':Operand→Value} {ps:List (Nat×Nat×Operand)} (h:∀x∈ps.map (·.2.2),g x=g' x):(ps.map fun (o,s,x)=>(o,s,g x))=ps.map fun (o,s,x)=>(o,s,g' x):=by
 apply List.map_congr_left
 rintro ⟨o,s,x⟩ hx
 simp [h x (by simp;exact ⟨o,s,hx⟩)]

theorem atJ {o:nS} {g g':Operand→Value} (h:∀x∈o.fZ,g x=g' x):il o g=il o g':=by
 cases o with
 | BV mx xs=>
  simp only [il]
  rw [BU (xs:=xs) h]
 | HM x lo hi=>
  simp only [il,nS.fZ] at*
  rw [h x (by simp),GA (x:=lo) (fun y hy=>h y (by simp at hy⊢;exact .inr (.inl hy))),GA (x:=hi) (fun y hy=>h y (by simp at hy⊢;exact .inr (.inr hy)))]
 | HP e s x lo hi=>
  simp only [il,nS.fZ] at*
  rw [h x (by simp),GA (x:=lo) (fun y hy=>h y (by simp at hy⊢;exact .inr (.inl hy))),GA (x:=hi) (fun y hy=>h y (by simp at hy⊢;exact .inr (.inr hy)))]
 | fn f first captured=>
  simp only [il,nS.fZ] at*
  rw [BU (xs:=first) (fun x hx=>h x (by simp [hx])),BU (xs:=captured) (fun x hx=>h x (by simp [hx]))]
 | build zero parts=>
  simp only [il]
  rw [Hb (ps:=parts) h]
 | _=>simp [nS.fZ] at h;simp [il,h]

theorem atG {o:m9} {g g':Operand→Value} (h:∀x∈o.fZ,g x=g' x) (H:ae):eK o g H=eK o g' H:=by
 cases o <;> simp [m9.fZ] at h <;> simp [eK,h]

theorem atD {o:mZ} {g g':Operand→Value} (h:∀x∈o.fZ,g x=g' x) (H:ae):fB o g H=fB o g' H:=by
 cases o with
 | lK e n zs ps=>
  simp only [fB]
  rw [Hb (ps:=ps) h]
 | fl a=>
  cases a with
  | lK e n zs ps=>
   simp only [fB]
   rw [Hb (ps:=ps) h]
  | _=>simp [mZ.fZ,kG.fZ] at h;simp [fB,h]
 | _=>simp [mZ.fZ] at h;simp [fB,h]

theorem HW {P:Program} {io:fU} {f f':Nat→Value} {h:ae} {K:Value→ae→Prop} (hf:∀t∈tmpsOf io.fZ,f t=f' t):cQ P io f h K↔cQ P io f' h K:=by
 have he:=Mq hf
 cases io with
 | p o=>simp only [cQ];rw [atJ he]
 | l o=>simp only [cQ];rw [atG he]
 | e o=>simp only [cQ];rw [atD he]
 | call g args=>
  simp only [cQ]
  rw [BU (xs:=args) he]
 | jE x args=>simp only [cQ];rw [he x (by simp [fU.fZ]),BU (xs:=args) (fun y hy=>he y (by simp [fU.fZ,hy]))]


structure Trace (P:Program) (l:List cK) (j0:Nat) (F:Nat→Nat→Value) (H:Nat→ae) (V:Nat→Value):Prop where
 uO:∀k o,l[k]?=some o→F (j0+k+1)=db (F (j0+k)) o.op.dst (V (j0+k))
 MQ:∀k o,l[k]?=some o→qk o.op.guard (F (j0+k))
 yes:∀k o,l[k]?=some o→gH o.op.guard (F (j0+k))=true→cQ P o.op.op (F (j0+k)) (H (j0+k)) fun v h'=>v=V (j0+k)∧h'=H (j0+k+1)
 no:∀k o,l[k]?=some o→gH o.op.guard (F (j0+k))=false→V (j0+k)=undef∧H (j0+k+1)=H (j0+k)
 Qt:∀e oe k ok lo,l[e]?=some oe→oe.op.op.c7=true→l[k]?=some ok→ok.op.op=.l lo→gH ok.op.guard (F (j0+k))=true→e<k→ok.pre.testBit (j0+e)=false→
  eK lo (ev (F (j0+k))) (H (j0+e))=some (V (j0+k))
 ME:∀k ok lo e oe,l[k]?=some ok→ok.op.op=.l lo→gH ok.op.guard (F (j0+k))=true→l[e]?=some oe→oe.op.op.c7=true→k<e→oe.pre.testBit (j0+k)=false→
  eK lo (ev (F (j0+k))) (H (j0+e+1))=some (V (j0+k))
 YV:∀k ok a,l[k]?=some ok→ok.op.op=.e (.fl a)→gH ok.op.guard (F (j0+k))=true→∃u,dH (H (j0+k+1)) (V (j0+k))=some u∧
  ∀e oe,l[e]?=some oe→oe.op.op.c7=true→k<e→oe.pre.testBit (j0+k)=false→dH (H (j0+e+1)) (V (j0+k))=some u

theorem L3 {pre:Nat} {lo:m9} {f:Nat→Value} {v:Value}:∀{hs:List (Nat×ae)},tS pre lo f v hs→∀e H,(e,H)∈hs→pre.testBit e=false→eK lo (ev f) H=some v
 | [],_,e,H,hm,_=>by simp at hm
 | (e',H')::r,h,e,H,hm,hp=>by
  simp only [tS] at h
  rcases List.mem_cons.1 hm with hq | hm
  ·cases hq
   rw [if_neg (by rw [hp];simp)] at h
   exact h.1
  ·split at h
   ·exact L3 h e H hm hp
   ·exact L3 h.2 e H hm hp

theorem AG {pre:Nat} {H:ae}:∀{ls:dU},jS pre H ls→∀j lo f v,(j,lo,f,v)∈ls→pre.testBit j=false→eK lo (ev f) H=some v
 | [],_,j,lo,f,v,hm,_=>by simp at hm
 | (j',mV,f',v')::r,h,j,lo,f,v,hm,hp=>by
  simp only [jS] at h
  rcases List.mem_cons.1 hm with hq | hm
  ·cases hq
   rw [if_neg (by rw [hp];simp)] at h
   exact h.1
  ·split at h
   ·exact AG h j lo f v hm hp
   ·exact AG h.2 j lo f v hm hp

def Al (P:Program) (l:List cK) (j:Nat) (aL:List (Nat×ae)) (aH:dU) (K:(Nat→Value)→ae→Prop) (f:Nat→Value) (h:ae):Prop:=
 ∃F H V,F j=f∧H j=h∧K (F (j+l.length)) (H (j+l.length))∧Trace P l j F H V∧
  (∀e Hh,(e,Hh)∈aL→∀k ok lo,l[k]?=some ok→ok.op.op=.l lo→gH ok.op.guard (F (j+k))=true→ok.pre.testBit e=false→eK lo (ev (F (j+k))) Hh=some (V (j+k)))∧
  (∀i lo ff v,(i,lo,ff,v)∈aH→∀e oe,l[e]?=some oe→oe.op.op.c7=true→oe.pre.testBit i=false→eK lo (ev ff) (H (j+e+1))=some v)

theorem Og {P:Program}:∀{l:List cK} {j:Nat} {aL:List (Nat×ae)} {aH:dU} {K:(Nat→Value)→ae→Prop} {f:Nat→Value} {h:ae},jL P l j aL aH K f h→Al P l j aL aH K f h
 | [],j,aL,aH,K,f,h,hi=>
  ⟨fun _=>f,fun _=>h,fun _=>undef,rfl,rfl,hi,⟨fun k o hk=>by simp at hk,fun k o hk=>by simp at hk,fun k o hk=>by simp at hk,fun k o hk=>by simp at hk,fun e oe k ok lo hk=>by simp at hk,fun k ok lo e oe hk=>by simp at hk,fun k ok a hk=>by simp at hk⟩,
   fun e Hh hm k ok lo hk=>by simp at hk,fun i lo ff v hm e oe hk=>by simp at hk⟩
 | o::os,j,aL,aH,K,f,h,hi=>by
  -- ft rest,and how ft first step is laid ahead of it
  have key:∀(v:Value) (h':ae) (nt:List (Nat×ae)) (mW:dU),qk o.op.guard f→jL P os (j+1) nt mW K (db f o.op.dst v) h'→
    (∀p∈aL,p∈nt)→(∀p∈aH,p∈mW)→(o.op.op.c7=true→(j,h)∈nt)→(∀lo,o.op.op=.l lo→gH o.op.guard f=true→(j,lo,f,v)∈mW)→
    (gH o.op.guard f=true→cQ P o.op.op f h fun u g=>u=v∧g=h')→(gH o.op.guard f=false→v=undef∧h'=h)→
    (∀lo,o.op.op=.l lo→gH o.op.guard f=true→∀e Hh,(e,Hh)∈aL→o.pre.testBit e=false→eK lo (ev f) Hh=some v)→
    (o.op.op.c7=true→∀i lo ff u,(i,lo,ff,u)∈aH→o.pre.testBit i=false→eK lo (ev ff) h'=some u)→
    (∀a,o.op.op=.e (.fl a)→gH o.op.guard f=true→∃u,dH h' v=some u∧(j,.obj (.const v),f,u)∈mW)→
    Al P (o::os) j aL aH K f h:=by
   intro v h' nt mW ju NM hh hl hE hL hy hn hp hf oc
   obtain ⟨F,H,V,f1,f2,f3,T,fp,ff⟩:=Og NM
   have GC:∀{α:Type} (x:α) (G:Nat→α),∃G2:Nat→α,G2 j=x∧(∀k,G2 (j+k+1)=G (j+1+k))∧∀k,G2 (j+(k+1))=G (j+1+k):=by
    intro α x G
    refine ⟨fun k=>if k=j then x else G k,by simp,fun k=>?_,fun k=>?_⟩
    ·show (if j+k+1=j then x else G (j+k+1))=_
     rw [if_neg (by omega)]
     congr 1
     omega
    ·show (if j+(k+1)=j then x else G (j+(k+1)))=_
     rw [if_neg (by omega)]
     congr 1
     omega
   obtain ⟨F2,sA,YE,eF⟩:=GC f F
   obtain ⟨H2,E2,tY,eH⟩:=GC h H
   obtain ⟨V2,vK,eV1,eV⟩:=GC v V
   have arq:F2 (j+1)=F (j+1):=YE 0
   have E3:H2 (j+1)=H (j+1):=tY 0
   refine ⟨F2,H2,V2,sA,E2,?_,?_,?_,?_⟩
   ·rw [List.length_cons,eF,eH]
    exact f3
   ·constructor
    ·intro k ok hk
     cases k with
     | zero=>
      simp at hk;subst hk
      simp only [Nat.add_zero]
      rw [arq,sA,vK]
      exact f1
     | succ k=>
      have:=T.uO k ok (by simpa using hk)
      rw [YE,eF,eV,show j+1+(k+1)=j+1+k+1 by omega]
      exact this
    ·intro k ok hk
     cases k with
     | zero=>
      simp at hk;subst hk
      simp only [Nat.add_zero]
      rw [sA]
      exact ju
     | succ k=>
      rw [eF]
      exact T.MQ k ok (by simpa using hk)
    ·intro k ok hk hw
     cases k with
     | zero=>
      simp at hk;subst hk
      simp only [Nat.add_zero] at hw⊢
      rw [sA] at hw
      rw [E3,sA,E2,vK,f2]
      exact hy hw
     | succ k=>
      rw [eF] at hw
      rw [tY,eF,eH,eV,show j+1+(k+1)=j+1+k+1 by omega]
      exact T.yes k ok (by simpa using hk) hw
    ·intro k ok hk hw
     cases k with
     | zero=>
      simp at hk;subst hk
      simp only [Nat.add_zero] at hw⊢
      rw [sA] at hw
      rw [E3,E2,vK,f2]
      exact hn hw
     | succ k=>
      rw [eF] at hw
      rw [tY,eH,eV,show j+1+(k+1)=j+1+k+1 by omega]
      exact T.no k ok (by simpa using hk) hw
    ·intro e oe k ok lo he fg hk dL hw aC fI
     cases k with
     | zero=>omega
     | succ k=>
      rw [eF] at hw⊢
      rw [eV]
      cases e with
      | zero=>
       simp at he;subst he
       simp only [Nat.add_zero] at fI⊢
       rw [E2]
       exact fp j h (hE fg) k ok lo (by simpa using hk) dL hw fI
      | succ e=>
       rw [eH]
       rw [show j+(e+1)=j+1+e by omega] at fI
       exact T.Qt e oe k ok lo (by simpa using he) fg (by simpa using hk) dL hw (by omega) fI
    ·intro k ok lo e oe hk dL hw he fg aC fI
     cases e with
     | zero=>omega
     | succ e=>
      rw [tY,show j+1+(e+1)=j+1+e+1 by omega]
      cases k with
      | zero=>
       simp at hk;subst hk
       simp only [Nat.add_zero] at hw fI⊢
       rw [sA] at hw⊢
       rw [vK]
       exact ff j lo f v (hL lo dL hw) e oe (by simpa using he) fg fI
      | succ k=>
       rw [eF] at hw⊢
       rw [eV]
       rw [show j+(k+1)=j+1+k by omega] at fI
       exact T.ME k ok lo e oe (by simpa using hk) dL hw (by simpa using he) fg (by omega) fI
    ·intro k ok a hk cN hw
     cases k with
     | zero=>
      simp at hk;subst hk
      simp only [Nat.add_zero] at hw⊢
      rw [sA] at hw
      obtain ⟨u,u1,u2⟩:=oc a cN hw
      refine ⟨u,by rw [E3,vK,f2];exact u1,?_⟩
      intro e oe he fg aC fI
      cases e with
      | zero=>omega
      | succ e=>
       rw [tY,show j+1+(e+1)=j+1+e+1 by omega,vK]
       exact ff j (.obj (.const v)) f u u2 e oe (by simpa using he) fg fI
     | succ k=>
      rw [eF] at hw
      obtain ⟨u,u1,u2⟩:=T.YV k ok a (by simpa using hk) cN hw
      refine ⟨u,by rw [tY,eV,show j+1+(k+1)=j+1+k+1 by omega];exact u1,?_⟩
      intro e oe he fg aC fI
      cases e with
      | zero=>omega
      | succ e=>
       rw [tY,show j+1+(e+1)=j+1+e+1 by omega,eV]
       rw [show j+(k+1)=j+1+k by omega] at fI
       exact u2 e oe (by simpa using he) fg (by omega) fI
   ·intro e Hh hm k ok lo hk dL hw fI
    cases k with
    | zero=>
     simp at hk;subst hk
     simp only [Nat.add_zero] at hw⊢
     rw [sA] at hw⊢
     rw [vK]
     exact hp lo dL hw e Hh hm fI
    | succ k=>
     rw [eF] at hw⊢
     rw [eV]
     exact fp e Hh (hh _ hm) k ok lo (by simpa using hk) dL hw fI
   ·intro i lo YR u hm e oe he fg fI
    cases e with
    | zero=>
     simp at he;subst he
     simp only [Nat.add_zero]
     rw [E3,f2]
     exact hf fg i lo YR u hm fI
    | succ e=>
     rw [tY,show j+1+(e+1)=j+1+e+1 by omega]
     exact ff i lo YR u (hl _ hm) e oe (by simpa using he) fg fI
  have go:qk o.op.guard f→gH o.op.guard f=true→jF P o.op.op o.pre j aL aH f h (fun aL aH v h'=>jL P os (j+1) aL aH K (db f o.op.dst v) h')→Al P (o::os) j aL aH K f h:=fun ju hw hd=>by
   have Mi:o.op.op.c7=true→(∀a,o.op.op≠ .e (.fl a))→cQ P o.op.op f h (fun v h'=>jS o.pre h' aH∧jL P os (j+1) (aL++[(j,h)]) aH K (db f o.op.dst v) h')→Al P (o::os) j aL aH K f h:=fun hE py hs=>by
    have wy:∀lo,o.op.op≠ .l lo:=by intro lo e;rw [e] at hE;cases hE
    have ex:∃v h',cQ P o.op.op f h (fun u g=>u=v∧g=h')∧jS o.pre h' aH∧jL P os (j+1) (aL++[(j,h)]) aH K (db f o.op.dst v) h':=by
     generalize o.op.op=io at hs⊢
     cases io with
     | p po=>
      simp only [cQ,eO] at hs⊢
      split at hs
      ·exact ⟨_,_,⟨rfl,rfl⟩,hs⟩
      ·exact hs.elim
     | l lo=>
      simp only [cQ,eO] at hs⊢
      split at hs
      ·exact ⟨_,_,⟨rfl,rfl⟩,hs⟩
      ·exact hs.elim
     | e eo=>
      simp only [cQ,lL] at hs⊢
      split at hs
      ·exact ⟨_,_,⟨rfl,rfl⟩,hs⟩
      ·exact hs.elim
     | call g args=>
      obtain ⟨v,h',hc,hk⟩:=hs
      exact ⟨v,h',⟨v,h',hc,rfl,rfl⟩,hk⟩
     | jE x args=>
      simp only [cQ,rh] at hs⊢
      split at hs
      ·obtain ⟨kM,v,h',hc,hk⟩:=hs
       exact ⟨v,h',⟨kM,v,h',hc,rfl,rfl⟩,hk⟩
      ·obtain ⟨kM,v,h',hc,hk⟩:=hs
       exact ⟨v,h',⟨kM,v,h',hc,rfl,rfl⟩,hk⟩
      ·exact hs.elim
    obtain ⟨v,h',s1,s2,s3⟩:=ex
    exact key v h' _ _ ju s3 (fun p hp=>by simp [hp]) (fun p hp=>hp) (fun _=>by simp) (fun lo e=>absurd e (wy lo)) (fun _=>s1) (fun hf=>by rw [hw] at hf;cases hf) (fun lo e=>absurd e (wy lo))
     (fun _ i lo ff u hm fI=>AG s2 i lo ff u hm fI) (fun a e=>absurd e (py a))
   cases cN:o.op.op with
   | p po=>
    rw [cN] at hd
    simp only [jF,eO] at hd
    split at hd
    ·rename_i v hv
     exact key v h _ _ ju hd (fun p hp=>hp) (fun p hp=>hp) (fun hE=>by rw [cN] at hE;cases hE) (fun lo e=>by rw [cN] at e;cases e) (fun _=>by rw [cN];simp [cQ,eO,hv]) (fun hf=>by rw [hw] at hf;cases hf)
      (fun lo e=>by rw [cN] at e;cases e) (fun hE=>by rw [cN] at hE;cases hE) (fun a e=>by rw [cN] at e;cases e)
    ·exact hd.elim
   | l lo=>
    rw [cN] at hd
    simp only [jF,eO] at hd
    split at hd
    ·rename_i v hv
     exact key v h _ _ ju hd.2 (fun p hp=>hp) (fun p hp=>by simp [hp]) (fun hE=>by rw [cN] at hE;cases hE) (fun mV e _=>by rw [cN] at e;cases e;simp) (fun _=>by rw [cN];simp [cQ,eO,hv]) (fun hf=>by rw [hw] at hf;cases hf)
      (fun mV e _ e' Hh hm fI=>by rw [cN] at e;cases e;exact L3 hd.1 e' Hh hm fI) (fun hE=>by rw [cN] at hE;cases hE) (fun a e=>by rw [cN] at e;cases e)
    ·exact hd.elim
   | e eo=>
    cases eo with
    | fl a=>
     rw [cN] at hd
     simp only [jF,lL] at hd
     split at hd
     ·rename_i v h' hv
      simp only [eO] at hd
      split at hd
      ·rename_i u hu
       exact key v h' _ _ ju hd.2 (fun p hp=>by simp [hp]) (fun p hp=>by simp [hp]) (fun _=>by simp) (fun lo e=>by rw [cN] at e;cases e) (fun _=>by rw [cN];simp [cQ,lL,hv]) (fun hf=>by rw [hw] at hf;cases hf)
        (fun lo e=>by rw [cN] at e;cases e) (fun _ i lo ff u hm fI=>AG hd.1 i lo ff u hm fI) (fun a' _ _=>⟨u,hu,by simp⟩)
      ·exact hd.elim
     ·exact hd.elim
    | _=>exact Mi (by rw [cN];rfl) (fun a e=>by rw [cN] at e;cases e) (by rw [cN] at hd⊢;exact hd)
   | call g args=>exact Mi (by rw [cN];rfl) (fun a e=>by rw [cN] at e;cases e) (by rw [cN] at hd⊢;exact hd)
   | jE x args=>exact Mi (by rw [cN];rfl) (fun a e=>by rw [cN] at e;cases e) (by rw [cN] at hd⊢;exact hd)
  have skip:qk o.op.guard f→gH o.op.guard f=false→tX o.op.op o.pre j aL aH h (fun aL aH v h'=>jL P os (j+1) aL aH K (db f o.op.dst v) h')→Al P (o::os) j aL aH K f h:=fun ju hw hd=>by
   unfold tX at hd
   split at hd
   ·rename_i hE
    exact key undef h _ _ ju hd (fun p hp=>hp) (fun p hp=>hp) (fun fg=>by rw [hE] at fg;cases fg) (fun lo _ hf=>by rw [hw] at hf;cases hf) (fun hf=>by rw [hw] at hf;cases hf) (fun _=>⟨rfl,rfl⟩)
     (fun lo _ hf=>by rw [hw] at hf;cases hf) (fun fg=>by rw [hE] at fg;cases fg) (fun a _ hf=>by rw [hw] at hf;cases hf)
   ·rename_i hE
    exact key undef h _ _ ju hd.2 (fun p hp=>by simp [hp]) (fun p hp=>hp) (fun _=>by simp) (fun lo _ hf=>by rw [hw] at hf;cases hf) (fun hf=>by rw [hw] at hf;cases hf) (fun _=>⟨rfl,rfl⟩)
     (fun lo _ hf=>by rw [hw] at hf;cases hf) (fun _ i lo ff u hm fI=>AG hd.1 i lo ff u hm fI) (fun a _ hf=>by rw [hw] at hf;cases hf)
  simp only [jL] at hi
  split at hi
  ·rename_i jv
   exact go (by rw [jv];trivial) (by rw [jv];rfl) hi
  ·rename_i s b jv
   obtain ⟨e1,e2⟩:=Fl hi
   rcases e2 with ⟨e2,e3⟩ | ⟨e2,e3⟩
   ·exact go (by rw [jv];exact e1) (by rw [jv];exact e2) e3
   ·exact skip (by rw [jv];exact e1) (by rw [jv];exact e2) e3


def rk (g:Option (Nat×Bool)) (l:List iZ):List cK:=l.map fun o=>⟨⟨o.dst,o.op,g⟩,o.pre⟩

def rl:List (Option (Nat×Bool)×List iZ)→List cK
 | []=>[]
 | (g,l)::gs=>rk g l++rl gs

theorem EW:∀os:List cK,rl (tW os)=os
 | []=>rfl
 | o::os=>by
  have ih:=EW os
  simp only [tW]
  cases hg:tW os with
  | nil=>
   rw [hg] at ih
   simp only [rl] at ih
   subst ih
   simp [rl,rk]
  | cons a gs=>
   obtain ⟨g,l⟩:=a
   rw [hg] at ih
   simp only
   split
   ·rename_i he
    simp only [rl,rk,List.map_cons,List.cons_append] at ih⊢
    rw [ih,←he]
   ·simp only [rl,rk,List.map_cons,List.map_nil,List.cons_append,List.nil_append] at ih⊢
    rw [ih]

theorem Yv {l:List cK} (h:l.all (fun o=>leaves o.op.guard o.op.dst)=true):∀g m,(g,m)∈tW l→∀o∈m,leaves g o.dst=true:=by
 intro g m hm o ho
 have rE:(⟨⟨o.dst,o.op,g⟩,o.pre⟩:cK)∈rl (tW l):=by
  generalize tW l=gs at hm
  induction gs with
  | nil=>simp at hm
  | cons a gs ih=>
   obtain ⟨g',m'⟩:=a
   simp only [rl,List.mem_append]
   rcases List.mem_cons.1 hm with he | hm
   ·cases he
    left
    simp only [rk,List.mem_map]
    exact ⟨o,ho,rfl⟩
   ·exact .inr (ih hm)
 rw [EW] at rE
 rw [List.all_eq_true] at h
 exact h _ rE

theorem YA {P:Program} {io:fU} {pre j:Nat} {aL:List (Nat×ae)} {aH:dU} {f:Nat→Value} {h:ae} {K K':List (Nat×ae)→dU→Value→ae→Prop} (hm:∀a b v h,K a b v h→K' a b v h)
  (hs:jF P io pre j aL aH f h K):jF P io pre j aL aH f h K':=by
 cases io with
 | p po=>simp only [jF,eO] at hs⊢;split at hs <;> first | exact hm _ _ _ _ hs | exact hs.elim
 | l lo=>simp only [jF,eO] at hs⊢;split at hs <;> first | exact ⟨hs.1,hm _ _ _ _ hs.2⟩ | exact hs.elim
 | e eo=>
  cases eo with
  | fl a=>
   simp only [jF,lL,eO] at hs⊢
   split at hs
   ·split at hs <;> first | exact ⟨hs.1,hm _ _ _ _ hs.2⟩ | exact hs.elim
   ·exact hs.elim
  | _=>simp only [jF,lL] at hs⊢;split at hs <;> first | exact ⟨hs.1,hm _ _ _ _ hs.2⟩ | exact hs.elim
 | call g args=>exact pH.mono hs fun v h hk=>⟨hk.1,hm _ _ _ _ hk.2⟩
 | jE x args=>simp only [jF,rh] at hs⊢;split at hs <;> first | exact ⟨hs.1,hs.2.mono fun v h hk=>⟨hk.1,hm _ _ _ _ hk.2⟩⟩ | exact hs.elim

theorem Yz {io:fU} {pre j:Nat} {aL:List (Nat×ae)} {aH:dU} {h:ae} {K K':List (Nat×ae)→dU→Value→ae→Prop} (hm:∀a b v h,K a b v h→K' a b v h)
  (hs:tX io pre j aL aH h K):tX io pre j aL aH h K':=by
 unfold tX at hs⊢
 split at hs
 ·exact hm _ _ _ _ hs
 ·exact ⟨hs.1,hm _ _ _ _ hs.2⟩

theorem Ru {f:Nat→Value} {d:Option Nat} {s:Nat} (hd:d≠some s) (v:Value):db f d v s=f s:=by
 cases ho:d with
 | none=>rfl
 | some x=>
  have:s≠x:=by rintro rfl;exact hd ho
  simp [db,qV,this]

theorem Y1 {P:Program} {g:Option (Nat×Bool)} {r:List cK} {K:(Nat→Value)→ae→Prop}:∀{l:List iZ} {j:Nat} {aL:List (Nat×ae)} {aH:dU} {f:Nat→Value} {h:ae},(∀o∈l,leaves g o.dst=true)→
  (∀s b,g=some (s,b)→tc (f s)=false∧oE (f s) b=true)→
  mM P l j aL aH (fun aL aH f h=>jL P r (j+l.length) aL aH K f h) f h→jL P (rk g l++r) j aL aH K f h:=by
 intro l
 induction l with
 | nil=>intro j aL aH f h _ _ hk;exact hk
 | cons o l ih=>
  intro j aL aH f h hl hg hk
  simp only [mM] at hk
  simp only [rk,List.map_cons,List.cons_append,jL]
  have step:jF P o.op o.pre j aL aH f h fun aL aH v h'=>jL P (rk g l++r) (j+1) aL aH K (db f o.dst v) h':=by
   refine YA (fun a b v h' bV=>?_) hk
   refine ih (fun o' de=>hl o' (by simp [de])) ?_ ?_
   ·intro s bb hs
    have hd:o.dst≠some s:=by have:=hl o (by simp);rw [hs] at this;simpa [leaves] using this
    rw [Ru hd]
    exact hg s bb hs
   ·rw [List.length_cons] at bV
    rw [show j+1+l.length=j+(l.length+1) by omega]
    exact bV
  cases jv:g with
  | none=>rw [jv] at step;exact step
  | some sb=>
   obtain ⟨s,b⟩:=sb
   obtain ⟨e1,e2⟩:=hg s b jv
   rw [jv] at step
   exact MU e1 (fun _=>step) (fun h=>by rw [e2] at h;cases h)

theorem ar4 {P:Program} {s:Nat} {b:Bool} {r:List cK} {K:(Nat→Value)→ae→Prop}:∀{l:List iZ} {j:Nat} {aL:List (Nat×ae)} {aH:dU} {f:Nat→Value} {h:ae},(∀o∈l,leaves (some (s,b)) o.dst=true)→
  tc (f s)=false→oE (f s) b=false→
  sE l j aL aH (fun aL aH f h=>jL P r (j+l.length) aL aH K f h) f h→jL P (rk (some (s,b)) l++r) j aL aH K f h:=by
 intro l
 induction l with
 | nil=>intro j aL aH f h _ _ _ hk;exact hk
 | cons o l ih=>
  intro j aL aH f h hl e1 e2 hk
  simp only [sE] at hk
  simp only [rk,List.map_cons,List.cons_append,jL]
  refine MU e1 (fun h=>by rw [e2] at h;cases h) (fun _=>?_)
  refine Yz (fun a c v h' bV=>?_) hk
  have hd:o.dst≠some s:=by have:=hl o (by simp);simpa [leaves] using this
  refine ih (fun o' de=>hl o' (by simp [de])) (by rw [Ru hd];exact e1) (by rw [Ru hd];exact e2) ?_
  rw [List.length_cons] at bV
  rw [show j+1+l.length=j+(l.length+1) by omega]
  exact bV

theorem MK {P:Program} {K K':List (Nat×ae)→dU→(Nat→Value)→ae→Prop} (hm:∀a b f h,K a b f h→K' a b f h):∀{l:List iZ} {j:Nat} {aL:List (Nat×ae)} {aH:dU} {f:Nat→Value} {h:ae},
  mM P l j aL aH K f h→mM P l j aL aH K' f h
 | [],_,_,_,_,_,hk=>hm _ _ _ _ hk
 | _::_,_,_,_,_,_,hk=>YA (fun _ _ _ _ bV=>MK hm bV) hk

theorem Y2 {K K':List (Nat×ae)→dU→(Nat→Value)→ae→Prop} (hm:∀a b f h,K a b f h→K' a b f h):∀{l:List iZ} {j:Nat} {aL:List (Nat×ae)} {aH:dU} {f:Nat→Value} {h:ae},
  sE l j aL aH K f h→sE l j aL aH K' f h
 | [],_,_,_,_,_,hk=>hm _ _ _ _ hk
 | _::_,_,_,_,_,_,hk=>Yz (fun _ _ _ _ bV=>Y2 hm bV) hk

theorem Y0 {P:Program} {K:(Nat→Value)→ae→Prop}:∀{gs:List (Option (Nat×Bool)×List iZ)} {j:Nat} {aL:List (Nat×ae)} {aH:dU} {f:Nat→Value} {h:ae},(∀g l,(g,l)∈gs→∀o∈l,leaves g o.dst=true)→
  ma P gs j aL aH K f h→jL P (rl gs) j aL aH K f h:=by
 intro gs
 induction gs with
 | nil=>intro j aL aH f h _ hk;exact hk
 | cons a gs ih=>
  obtain ⟨g,l⟩:=a
  intro j aL aH f h hl hk
  have lE:∀g' l',(g',l')∈gs→∀o∈l',leaves g' o.dst=true:=fun g' l' hm=>hl g' l' (by simp [hm])
  simp only [rl]
  cases g with
  | none=>
   simp only [ma] at hk
   exact Y1 (hl none l (by simp)) (fun s b hs=>by cases hs) (MK (fun a b f h bV=>ih lE bV) hk)
  | some sb=>
   obtain ⟨s,b⟩:=sb
   simp only [ma] at hk
   obtain ⟨e1,e2⟩:=Fl hk
   rcases e2 with ⟨e2,e3⟩ | ⟨e2,e3⟩
   ·exact Y1 (hl _ l (by simp)) (fun s' b' hs=>by cases hs;exact ⟨e1,e2⟩) (MK (fun a b f h bV=>ih lE bV) e3)
   ·exact ar4 (hl _ l (by simp)) e1 e2 (Y2 (fun a b f h bV=>ih lE bV) e3)

end Go.Sim


namespace Go.Sim

def dP (V:Nat→Value) (S:List Nat):List cK→Nat→(Nat→Value)→(Nat→Value)
 | [],_,f=>f
 | d::ds,i,f=>dP V S ds (i+1) (if S.contains i then db f d.op.dst (V i) else f)

theorem ua {V:Nat→Value} {S S':List Nat} {t:Nat}:∀{l:List cK} {i:Nat} {f f':Nat→Value},(∀k d,l[k]?=some d→d.op.dst=some t→(i+k∈S↔i+k∈S'))→f t=f' t→dP V S l i f t=dP V S' l i f' t
 | [],i,f,f',_,hf=>hf
 | d::ds,i,f,f',h,hf=>by
  simp only [dP]
  refine ua (fun k d' hk hd=>?_) ?_
  ·have:=h (k+1) d' (by simpa using hk) hd
   rw [show i+(k+1)=i+1+k by omega] at this
   exact this
  ·by_cases hd:d.op.dst=some t
   ·have:=h 0 d rfl hd
    simp only [Nat.add_zero] at this
    by_cases hi:i∈S
    ·simp [hi,this.1 hi,hd,db,qV]
    ·have fm:i∉S':=fun h=>hi (this.2 h)
     simp [hi,fm,hf]
   ·have br:∀v g,db g d.op.dst v t=g t:=by
     intro v g
     cases wc:d.op.dst with
     | none=>rfl
     | some x=>
      have:t≠x:=by rintro rfl;exact hd wc
      simp [db,qV,this]
    split <;> split <;> simp [br,hf]

theorem MD {V:Nat→Value} {S:List Nat} {t:Nat}:∀{l:List cK} {i:Nat} {f:Nat→Value} {k:Nat} {d:cK},l[k]?=some d→d.op.dst=some t→i+k∈S→
  (∀k' d',l[k']?=some d'→d'.op.dst=some t→k<k'→i+k'∉S)→dP V S l i f t=V (i+k)
 | [],i,f,k,d,hk,_,_,_=>by simp at hk
 | d0::ds,i,f,k,d,hk,hd,hS,FH=>by
  simp only [dP]
  cases k with
  | zero=>
   simp at hk;subst hk
   simp only [Nat.add_zero] at hS⊢
   have:dP V S ds (i+1) (if S.contains i=true then db f d0.op.dst (V i) else f) t=dP V [] ds (i+1) (if S.contains i=true then db f d0.op.dst (V i) else f) t:=by
    refine ua (fun k' d' bV ph=>?_) rfl
    have:=FH (k'+1) d' (by simpa using bV) ph (by omega)
    rw [show i+(k'+1)=i+1+k' by omega] at this
    simp [this]
   rw [this]
   have Bn:∀(l:List cK) (i:Nat) (f:Nat→Value),dP V [] l i f=f:=by
    intro l
    induction l with
    | nil=>intro i f;rfl
    | cons a l ih=>intro i f;simp [dP,ih]
   rw [Bn]
   simp [hS,hd,db,qV]
  | succ k=>
   have:=MD (V:=V) (S:=S) (l:=ds) (i:=i+1) (f:=if S.contains i=true then db f d0.op.dst (V i) else f) (k:=k) (d:=d) (by simpa using hk) hd (by rw [show i+1+k=i+(k+1) by omega];exact hS) (by
    intro k' d' bV ph aC
    have:=FH (k'+1) d' (by simpa using bV) ph (by omega)
    rw [show i+(k'+1)=i+1+k' by omega] at this
    exact this)
   rw [this]
   congr 1
   omega

theorem AU {P:Program} {l:List cK} {F:Nat→Nat→Value} {H:Nat→ae} {V:Nat→Value} (T:Trace P l 0 F H V):∀(r:List cK) (i:Nat) (S:List Nat) (j:Nat),(∀k,r[k]?=l[i+k]?)→(∀k,k∈S↔k<j)→i≤j→j≤i+r.length→
  dP V S r i (F i)=F j
 | [],i,S,j,_,_,h1,h2=>by
  simp at h2
  obtain rfl:i=j:=by omega
  rfl
 | d::r,i,S,j,hr,hS,h1,h2=>by
  simp only [dP]
  have h0:=hr 0
  simp only [List.getElem?_cons_zero,Nat.add_zero] at h0
  have hu:=T.uO i d h0.symm
  simp only [Nat.zero_add] at hu
  by_cases dG:i<j
  ·have:i∈S:=(hS i).2 dG
   simp only [List.contains_eq_mem,this,decide_true,if_true]
   rw [←hu]
   exact AU T r (i+1) S j (fun k=>by have:=hr (k+1);rw [show i+(k+1)=i+1+k by omega] at this;simpa using this) hS (by omega) (by simp at h2;omega)
  ·obtain rfl:i=j:=by omega
   have hni:i∉S:=fun h=>by have:=(hS i).1 h;omega
   simp only [List.contains_eq_mem,hni,decide_false,Bool.false_eq_true,if_false]
   have atf:∀(r:List cK) (k:Nat) (f:Nat→Value),i≤k→dP V S r k f=f:=by
    intro r
    induction r with
    | nil=>intro k f _;rfl
    | cons a r ih=>
     intro k f hk
     have:k∉S:=fun h=>by have:=(hS k).1 h;omega
     simp [dP,this,ih (k+1) f (by omega)]
   exact atf r (i+1) _ (by omega)

def Ab (es:List (List Nat)) (S:List Nat):Prop:=∀j e,j∈S→e∈(es.getD j [])→e∈S

theorem agl {nK:List Nat}:∀{es:List Nat} {i:Nat},(tm nK es).testBit i=true→∃e∈es,i=e∨(nK.getD e 0).testBit i=true
 | [],i,h=>by simp [tm] at h
 | e::es,i,h=>by
  simp only [tm,Nat.testBit_or,Bool.or_eq_true] at h
  rcases h with (h | h) | h
  ·refine ⟨e,by simp,.inl ?_⟩
   rw [Nat.testBit_two_pow] at h
   exact (by simpa using h:e=i).symm
  ·exact ⟨e,by simp,.inr h⟩
  ·obtain ⟨e',h1,h2⟩:=agl h
   exact ⟨e',by simp [h1],h2⟩

theorem ap9:∀{es:List (List Nat)} {acc:List Nat} {all:List (List Nat)},(∀k,es[k]?=all[acc.length+k]?)→(∀j i,j<acc.length→(acc.getD j 0).testBit i=true→∃e∈all.getD j [],i=e∨((iA es acc).getD e 0).testBit i=true)→
  (∀j i,((iA es acc).getD j 0).testBit i=true→∃e∈all.getD j [],i=e∨((iA es acc).getD e 0).testBit i=true):=by
 intro es
 induction es with
 | nil=>
  intro acc all _ A3 j i h
  simp only [iA] at h⊢A3
  by_cases hj:j<acc.length
  ·exact A3 j i hj h
  ·have:acc.getD j 0=0:=by simp [List.getD,Nat.le_of_not_lt hj]
   rw [this] at h
   simp at h
 | cons e0 es ih=>
  intro acc all eW A3 j i h
  simp only [iA] at h⊢A3
  have dN:∀(es:List (List Nat)) (acc:List Nat) (k:Nat),k<acc.length→(iA es acc).getD k 0=acc.getD k 0:=by
   intro es
   induction es with
   | nil=>intro acc k _;rfl
   | cons a es ih'=>
    intro acc k hk
    simp only [iA]
    rw [ih' _ k (by simp;omega)]
    simp [List.getD,List.getElem?_append_left hk]
  refine ih (acc:=acc++[tm acc e0]) (all:=all) ?_ ?_ j i h
  ·intro k
   have:=eW (k+1)
   simp only [List.getElem?_cons_succ] at this
   rw [this]
   congr 1
   simp
   omega
  ·intro j' i' wo hb
   by_cases aC:j'<acc.length
   ·rw [show (acc++[tm acc e0]).getD j' 0=acc.getD j' 0 by simp [List.getD,List.getElem?_append_left aC]] at hb
    exact A3 j' i' aC hb
   ·obtain rfl:j'=acc.length:=by simp at wo;omega
    rw [show (acc++[tm acc e0]).getD acc.length 0=tm acc e0 by simp [List.getD]] at hb
    obtain ⟨e,h1,h2⟩:=agl hb
    have h0:=eW 0
    simp only [List.getElem?_cons_zero,Nat.add_zero] at h0
    refine ⟨e,by simp [List.getD,←h0,h1],?_⟩
    rcases h2 with h2 | h2
    ·exact .inl h2
    ·right
     have ass:e<acc.length:=by
      apply Classical.byContradiction
      intro cH
      have:acc.getD e 0=0:=by simp [List.getD,Nat.le_of_not_lt cH]
      rw [this] at h2
      simp at h2
     rw [dN _ _ _ (by simp;omega)]
     simpa [List.getD,List.getElem?_append_left ass] using h2

theorem Hg {es:List (List Nat)} {S:List Nat} (hS:Ab es S) (vV:∀j e,e∈es.getD j []→e<j):∀(j i:Nat),(∀e∈es.getD j [],e∈S)→((iA es []).getD j 0).testBit i=true→i∈S:=by
 intro j
 induction j using Nat.strongRecOn with
 | _ j ih=>
  intro i he hb
  obtain ⟨e,h1,h2⟩:=ap9 (es:=es) (acc:=[]) (all:=es) (fun k=>by simp) (fun j i hj=>by simp at hj) j i hb
  rcases h2 with rfl | h2
  ·exact he _ h1
  ·exact ih e (vV j e h1) i (fun e' fk=>hS e e' (he e h1) fk) h2

end Go.Sim


namespace Go.Sim

section
variable {P : Program} {N : Nat}

theorem IL {l:List cK} {F:Nat→Nat→Value} {H:Nat→ae} {V:Nat→Value} (T:Trace P l 0 F H V) {i:Nat}:∀(d:Nat),i+d≤l.length→(∀e oe,l[e]?=some oe→oe.op.op.c7=true→¬(i≤e∧e<i+d))→H (i+d)=H i
 | 0,_,_=>rfl
 | d+1,hl,hE=>by
  have ih:=IL T d (by omega) (fun e oe h1 h2 h3=>hE e oe h1 h2 ⟨h3.1,by omega⟩)
  have aC:i+d<l.length:=by omega
  have bN:l[i+d]?=some l[i+d]:=List.getElem?_eq_getElem aC
  have FL:l[i+d].op.op.c7=false:=by
   cases hq:l[i+d].op.op.c7 with
   | false=>rfl
   | true=>exact absurd ⟨by omega,by omega⟩ (hE (i+d) _ bN hq)
  rw [show i+(d+1)=i+d+1 by omega]
  rw [←ih]
  have hy:=T.yes (i+d) _ bN
  have hn:=T.no (i+d) _ bN
  simp only [Nat.zero_add] at hy hn
  cases hw:gH l[i+d].op.guard (F (i+d)) with
  | false=>exact (hn hw).2
  | true=>
   have hs:=hy hw
   generalize l[i+d].op.op=io at hs FL
   cases io with
   | p po=>
    simp only [cQ,eO] at hs
    split at hs
    ·exact hs.2.symm
    ·exact hs.elim
   | l lo=>
    simp only [cQ,eO] at hs
    split at hs
    ·exact hs.2.symm
    ·exact hs.elim
   | e eo=>cases FL
   | call g args=>cases FL
   | jE x args=>cases FL

theorem oP {l:List cK} {F:Nat→Nat→Value} {H:Nat→ae} {V:Nat→Value} (T:Trace P l 0 F H V) {i k:Nat} (FD:i≤k) (hk:k≤l.length) (hE:∀e oe,l[e]?=some oe→oe.op.op.c7=true→¬(i≤e∧e<k)):H k=H i:=by
 have:=IL T (i:=i) (k-i) (by omega) (fun e oe h1 h2 h3=>hE e oe h1 h2 ⟨h3.1,by omega⟩)
 rw [show i+(k-i)=k by omega] at this
 exact this

def JB (l:List cK) (S:List Nat) (m:Nat):Prop:=∀e oe,l[e]?=some oe→oe.op.op.c7=true→(e∈S↔e<m)

theorem Ch {l:List cK} (h:G9 l=true) {i j:Nat} {oi oj:cK} (hi:l[i]?=some oi) (hj:l[j]?=some oj):zA oj j oi i=true:=by
 unfold G9 at h
 rw [List.all_eq_true] at h
 have h1:=h (oj,j) (List.mem_zipIdx_iff_getElem?.2 hj)
 simp only at h1
 rw [List.all_eq_true] at h1
 exact h1 (oi,i) (List.mem_zipIdx_iff_getElem?.2 hi)

theorem agb {oi oj:cK} {i j t:Nat} (h:zA oj j oi i=true) (br:i≠j) (hd:oi.op.dst=some t) (ht:rZ oj t=true):(if i<j then oj.pre.testBit i else oi.pre.testBit j)=true:=by
 unfold zA at h
 rw [hd] at h
 simp only [Bool.and_eq_true,Bool.or_eq_true,beq_iff_eq,ht,Bool.not_true,Bool.false_eq_true,false_or] at h
 rcases h.1 with h | h
 ·exact absurd h br
 ·exact h

theorem Qr {oi oj:cK} {i j:Nat} (h:zA oj j oi i=true) (aC:i<j) (hi:oi.op.op.c7=true) (hj:oj.op.op.c7=true):oj.pre.testBit i=true:=by
 unfold zA at h
 simp only [Bool.and_eq_true,aC,decide_true,hi,hj,Bool.and_self,Bool.not_true,Bool.false_or] at h
 exact h.2

theorem aqE {ops:Array Oper} {l:List cK} {F:Nat→Nat→Value} {H:Nat→ae} {V:Nat→Value} (T:Trace P l 0 F H V) (hlen:l.length=ops.size)
  (asq:∀(k:Nat) (o:Oper) (d:cK),ops[k]?=some o→l[k]?=some d→vH P N ops o=some d.op)
  (fI:∀k d,l[k]?=some d→d.pre=(iA (ops.toList.map eG) []).getD k 0)
  (vV:∀j e,e∈(ops.toList.map eG).getD j []→e<j) (um:G9 l=true) {S r:List Nat} (hv:Valid ops S r):
  Ab (ops.toList.map eG) S→(∀i∈S,i<ops.size)→∀m,m≤l.length→JB l S m→∀S' B ρ a w,Rel P N B ρ (dP V S l 0 (F 0)) (H m) a w→∀Q:Exit→Act→World→Prop,
   (∀au a' w',Rel P N B au (F l.length) (H l.length) a' w'→Tr ρ (H m) w au (H l.length) w'→Q .normal a' w')→wpOpsIn (FR S') 0 P ops Q r a w:=by
 induction hv with
 | nil eW=>
  rename_i S
  intro fh aC m hm dM S' B ρ a w R Q hq
  have hF:dP V S l 0 (F 0)=F l.length:=by
   have h1:=AU T l 0 (List.range l.length) l.length (fun k=>by simp) (fun k=>by simp) (by omega) (by omega)
   rw [←h1]
   funext t
   refine ua (fun k d hk _=>?_) rfl
   have fO:=(List.getElem?_eq_some_iff.1 hk).1
   simp only [Nat.zero_add,List.mem_range]
   exact ⟨fun _=>fO,fun _=>eW k (by omega)⟩
  have hH:H l.length=H m:=by
   refine oP T hm (Nat.le_refl _) ?_
   rintro e oe he hE ⟨h1,h2⟩
   have:=(dM e oe he hE).1 (eW e (by omega))
   omega
  rw [hF] at R
  simp only [wpOpsIn]
  refine hq ρ a w (by rw [hH];exact R) ?_
  rw [hH]
  exact Tr.refl R.heap
 | cons sQ sP wh hvr ih=>
  rename_i S j o r
  intro fh aC m hm dM S' B ρ a w R Q hq
  have sL:j<ops.size:=(Array.getElem?_eq_some_iff.1 sQ).1
  have bN:l[j]?=some (l[j]'(by omega)):=List.getElem?_eq_getElem _
  generalize hd0:l[j]'(by omega)=d at bN
  have hc:=asq j o d sQ bN
  obtain ⟨q1,q2,q3,q4,q5⟩:=AH hc
  have jd:(ops.toList.map eG).getD j []=eG o:=by
   simp [List.getD,sQ]
  have rA:Ab (ops.toList.map eG) (j::S):=by
   intro k e hk he
   rcases List.mem_cons.1 hk with rfl | hk
   ·rw [jd] at he
    exact List.mem_cons_of_mem _ (wh e he)
   ·exact List.mem_cons_of_mem _ (fh k e hk he)
  have before:∀i,d.pre.testBit i=true→i∈S:=by
   intro i hb
   rw [fI j d bN] at hb
   exact Hg fh vV j i (by rw [jd];exact wh) hb
  have behind:∀k dk,l[k]?=some dk→dk.pre.testBit j=true→k∉S:=by
   intro k dk hk hb Bh
   rw [fI k dk hk] at hb
   exact sP (Hg fh vV k j (fun e he=>fh k e Bh he) hb)
  have slot:∀t,rZ d t=true→dP V S l 0 (F 0) t=F j t:=by
   intro t ht
   have h1:=AU T l 0 (List.range j) j (fun k=>by simp) (fun k=>by simp) (by omega) (by omega)
   rw [←h1]
   refine ua (fun k dk hk we=>?_) rfl
   simp only [Nat.zero_add,List.mem_range]
   by_cases pn:k=j
   ·subst pn
    exact ⟨fun h=>absurd h sP,fun h=>absurd h (Nat.lt_irrefl _)⟩
   ·have hp:=agb (Ch um hk bN) pn we ht
    by_cases kO:k<j
    ·rw [if_pos kO] at hp
     exact ⟨fun _=>kO,fun _=>before k hp⟩
    ·rw [if_neg kO] at hp
     exact ⟨fun h=>absurd h (behind k dk hk hp),fun h=>absurd h kO⟩
  have wG:∀t∈d.op.reads,dP V S l 0 (F 0) t=F j t:=fun t ht=>slot t (by simp [rZ,ht])
  have yJ:∀t∈tmpsOf d.op.op.fZ,dP V S l 0 (F 0) t=F j t:=fun t ht=>wG t (by simp [gM.reads,ht])
  have BC:gH d.op.guard (dP V S l 0 (F 0))=gH d.op.guard (F j):=by
   cases hg:d.op.guard with
   | none=>rfl
   | some sb=>
    obtain ⟨s,b⟩:=sb
    simp only [gH]
    rw [wG s (by simp [gM.reads,hg])]
  have Ni:qk d.op.guard (dP V S l 0 (F 0)):=by
   have:=T.MQ j d bN
   simp only [Nat.zero_add] at this
   cases hg:d.op.guard with
   | none=>trivial
   | some sb=>
    obtain ⟨s,b⟩:=sb
    rw [hg] at this
    simp only [qk] at this⊢
    rw [wG s (by simp [gM.reads,hg])]
    exact this
  have BD:=Cy q4 R Ni
  have iR:dP V (j::S) l 0 (F 0)=db (dP V S l 0 (F 0)) o.dst (V j):=by
   rw [←q5]
   funext t
   by_cases ko:d.op.dst=some t
   ·have h1:=MD (V:=V) (S:=j::S) (l:=l) (i:=0) (f:=F 0) (k:=j) (d:=d) bN ko (by simp) (by
     intro k' d' bV ph kO
     have hp:=agb (Ch um bV bN) (by omega) ph (by simp [rZ,ko])
     rw [if_neg (by omega)] at hp
     have:=behind k' d' bV hp
     simp only [Nat.zero_add,List.mem_cons,not_or]
     exact ⟨by omega,this⟩)
    rw [h1]
    simp [ko,db,qV]
   ·have h1:dP V (j::S) l 0 (F 0) t=dP V S l 0 (F 0) t:=by
     refine ua (fun k dk hk we=>?_) rfl
     have pn:k≠j:=by
      rintro rfl
      rw [bN] at hk
      cases hk
      exact ko we
     simp [pn]
    rw [h1]
    cases wc:d.op.dst with
    | none=>rfl
    | some x=>
     have:t≠x:=by rintro rfl;exact ko wc
     simp [db,qV,this]
  have ky:∀i∈j::S,i<ops.size:=by
   intro i hi
   rcases List.mem_cons.1 hi with rfl | hi
   ·exact sL
   ·exact aC i hi
  -- ft Cs,where ft operation writes memory
  have Ct:d.op.op.c7=true→H m=H j∧JB l (j::S) (j+1):=by
   intro hE
   have og:m≤j:=by
    apply Classical.byContradiction
    intro h
    exact sP ((dM j d bN hE).2 (by omega))
   refine ⟨?_,?_⟩
   ·refine (oP T og (by omega) ?_).symm
    rintro e oe he kn ⟨h1,h2⟩
    have hb:=Qr (Ch um he bN) h2 kn hE
    have:=(dM e oe he kn).1 (before e hb)
    omega
   ·intro e oe he kn
    rcases Nat.lt_trichotomy e j with kO | rfl | qw
    ·have hb:=Qr (Ch um he bN) kO kn hE
     exact ⟨fun _=>by omega,fun _=>List.mem_cons_of_mem _ (before e hb)⟩
    ·exact ⟨fun _=>by omega,fun _=>by simp⟩
    ·have hb:=Qr (Ch um bN he) qw hE kn
     have:=behind e oe he hb
     constructor
     ·intro h
      rcases List.mem_cons.1 h with h | h
      ·omega
      ·exact absurd h this
     ·intro h;omega
  have zK:d.op.op.c7=false→JB l (j::S) m:=by
   intro hE e oe he kn
   have br:e≠j:=by
    rintro rfl
    rw [bN] at he
    cases he
    rw [hE] at kn
    cases kn
   rw [←dM e oe he kn]
   simp [br]
  have BG:=T.yes j d bN
  have cW:=T.no j d bN
  simp only [Nat.zero_add] at BG cW
  simp only [wpOpsIn,sQ]
  by_cases hw:gH d.op.guard (F j)=true
  ·rw [if_pos (by rw [BD,BC,hw])]
   have hs:=BG hw
   by_cases hE:d.op.op.c7=true
   ·obtain ⟨e1,e2⟩:=Ct hE
    rw [←HW yJ,←e1] at hs
    obtain ⟨v,h',st,hv,hh⟩:=xl (N:=N) q3 q1 hs
    subst hv
    subst hh
    refine st S' B ρ a w R _ _ ?_
    intro au v' w' sX HH TT
    have R':=R.rS q2 TT sX HH
    rw [←iR] at R'
    exact ih rA ky (j+1) (by omega) e2 S' B au _ w' R' Q fun kE pZ iW mG rb=>hq kE pZ iW mG (TT.trans rb)
   ·have fg:d.op.op.c7=false:=by simpa using hE
    -- pQ is looked at has one value at this Cs and in ft aBL order
    have dw:cQ P d.op.op (dP V S l 0 (F 0)) (H m) fun v h'=>v=V j∧h'=H m:=by
     rw [HW yJ]
     cases cN:d.op.op with
     | p po=>
      rw [cN] at hs
      simp only [cQ,eO] at hs⊢
      split at hs
      ·exact ⟨hs.1,trivial⟩
      ·exact hs.elim
     | l lo=>
      have bS:eK lo (ev (F j)) (H m)=some (V j):=by
       have yP:eK lo (ev (F j)) (H j)=some (V j):=by
        rw [cN] at hs
        simp only [cQ,eO] at hs
        split at hs
        ·rename_i v hv
         rw [hv,hs.1]
        ·exact hs.elim
       rcases Nat.le_total m j with og | og
       ·by_cases hex:∃e oe,l[e]?=some oe∧oe.op.op.c7=true∧m≤e∧e<j
        ·-- ft least of aAl
         have key:∀n,(∃e oe,l[e]?=some oe∧oe.op.op.c7=true∧m≤e∧e<j∧e<n)→∃e oe,l[e]?=some oe∧oe.op.op.c7=true∧m≤e∧e<j∧∀e' hO,l[e']?=some hO→hO.op.op.c7=true→¬(m≤e'∧e'<e):=by
          intro n
          induction n with
          | zero=>rintro ⟨e,oe,_,_,_,_,h⟩;omega
          | succ n qG=>
           rintro ⟨e,oe,h1,h2,h3,h4,h5⟩
           by_cases dL:∃e oe,l[e]?=some oe∧oe.op.op.c7=true∧m≤e∧e<j∧e<n
           ·exact qG dL
           ·refine ⟨e,oe,h1,h2,h3,h4,?_⟩
            rintro e' hO k1 k2 ⟨k3,k4⟩
            exact dL ⟨e',hO,k1,k2,k3,by omega,by omega⟩
         obtain ⟨e0,xk,g1,g2,g3,g4⟩:=hex
         obtain ⟨e,oe,h1,h2,h3,h4,h5⟩:=key j ⟨e0,xk,g1,g2,g3,g4,g4⟩
         have vT:H e=H m:=oP T h3 (by omega) (fun e' hO k1 k2 k3=>h5 e' hO k1 k2 k3)
         rw [←vT]
         have pv:d.pre.testBit e=false:=by
          cases hb:d.pre.testBit e with
          | false=>rfl
          | true=>
           have:=(dM e oe h1 h2).1 (before e hb)
           omega
         have:=T.Qt e oe j d lo h1 h2 bN cN (by simpa using hw) h4 (by simpa using pv)
         simpa using this
        ·have vU:H j=H m:=oP T og (by omega) (fun e oe h1 h2 h3=>hex ⟨e,oe,h1,h2,h3⟩)
         rw [←vU]
         exact yP
       ·by_cases hex:∃e oe,l[e]?=some oe∧oe.op.op.c7=true∧j≤e∧e<m
        ·have key:∀n,(∃e oe,l[e]?=some oe∧oe.op.op.c7=true∧j≤e∧e<m∧m≤e+n)→∃e oe,l[e]?=some oe∧oe.op.op.c7=true∧j≤e∧e<m∧∀e' hO,l[e']?=some hO→hO.op.op.c7=true→¬(e+1≤e'∧e'<m):=by
          intro n
          induction n with
          | zero=>rintro ⟨e,oe,_,_,_,_,h⟩;omega
          | succ n qG=>
           rintro ⟨e,oe,h1,h2,h3,h4,h5⟩
           by_cases dL:∃e oe,l[e]?=some oe∧oe.op.op.c7=true∧j≤e∧e<m∧m≤e+n
           ·exact qG dL
           ·refine ⟨e,oe,h1,h2,h3,h4,?_⟩
            rintro e' hO k1 k2 ⟨k3,k4⟩
            exact dL ⟨e',hO,k1,k2,by omega,by omega,by omega⟩
         obtain ⟨e0,xk,g1,g2,g3,g4⟩:=hex
         obtain ⟨e,oe,h1,h2,h3,h4,h5⟩:=key m ⟨e0,xk,g1,g2,g3,g4,by omega⟩
         have br:e≠j:=by
          rintro rfl
          rw [bN] at h1
          cases h1
          rw [fg] at h2
          cases h2
         have vT:H m=H (e+1):=oP T (by omega) hm (fun e' hO k1 k2 k3=>h5 e' hO k1 k2 k3)
         rw [vT]
         have pv:oe.pre.testBit j=false:=by
          cases hb:oe.pre.testBit j with
          | false=>rfl
          | true=>exact absurd ((dM e oe h1 h2).2 h4) (behind e oe h1 hb)
         have:=T.ME j d lo e oe bN cN (by simpa using hw) h1 h2 (by omega) (by simpa using pv)
         simpa using this
        ·have vU:H m=H j:=oP T og hm (fun e oe h1 h2 h3=>hex ⟨e,oe,h1,h2,h3⟩)
         rw [vU]
         exact yP
      simp [cQ,eO,bS]
     | e eo=>rw [cN] at fg;cases fg
     | call g args=>rw [cN] at fg;cases fg
     | jE x args=>rw [cN] at fg;cases fg
    obtain ⟨v,h',st,hv,hh⟩:=xl (N:=N) q3 q1 dw
    subst hv
    subst hh
    refine st S' B ρ a w R _ _ ?_
    intro au v' w' sX HH TT
    have R':=R.rS q2 TT sX HH
    rw [←iR] at R'
    exact ih rA ky m hm (zK fg) S' B au _ w' R' Q fun kE pZ iW mG rb=>hq kE pZ iW mG (TT.trans rb)
  ·have lG:gH d.op.guard (F j)=false:=by simpa using hw
   rw [if_neg (by rw [BD,BC,lG];simp)]
   obtain ⟨n1,n2⟩:=cW lG
   have R':=R.rS q2 (Tr.refl R.heap) (aw.undef _) R.heap
   rw [n1] at iR
   rw [←iR] at R'
   by_cases hE:d.op.op.c7=true
   ·obtain ⟨e1,e2⟩:=Ct hE
    have e3:H (j+1)=H m:=by rw [n2,e1]
    exact ⟨fun _ _=>trivial,ih rA ky (j+1) (by omega) e2 S' B ρ _ w (by rw [e3];exact R') Q fun kE pZ iW mG rb=>hq kE pZ iW mG (by rw [e3] at rb;exact rb)⟩
   ·exact ⟨fun _ _=>trivial,ih rA ky m hm (zK (by simpa using hE)) S' B ρ _ w R' Q hq⟩

theorem RL:∀{ios:List gM} {ps:List Nat},ios.length≤ps.length→(mD ios ps).length=ios.length∧∀(k:Nat) (d:cK),(mD ios ps)[k]?=some d→ios[k]?=some d.op∧d.pre=ps.getD k 0
 | [],ps,_=>⟨by simp [mD],fun k d h=>by simp [mD] at h⟩
 | o::ios,[],h=>by simp at h
 | o::ios,p::ps,h=>by
  obtain ⟨h1,h2⟩:=RL (ios:=ios) (ps:=ps) (by simpa using h)
  refine ⟨by simp [mD,h1],?_⟩
  intro k d hk
  cases k with
  | zero=>simp [mD] at hk;subst hk;simp
  | succ k=>
   simp only [mD,List.getElem?_cons_succ] at hk
   obtain ⟨a,b⟩:=h2 k d hk
   exact ⟨by simpa using a,by simpa [List.getD] using b⟩

theorem EH:∀(es:List (List Nat)) (acc:List Nat),(iA es acc).length=acc.length+es.length
 | [],acc=>by simp [iA]
 | e::es,acc=>by simp only [iA];rw [EH];simp;omega

theorem L7 {ops:Array Oper}:∀{os:List Oper} {l:List gM},jT P N ops os=some l→l.length=os.length∧∀(k:Nat) (o:Oper) (x:gM),os[k]?=some o→l[k]?=some x→vH P N ops o=some x
 | [],l,h=>by
  simp [jT] at h
  subst h
  exact ⟨rfl,fun k o x hk=>by simp at hk⟩
 | o::os,l,h=>by
  obtain ⟨x,xs,h1,h2,rfl⟩:=su h
  obtain ⟨e1,e2⟩:=L7 h2
  refine ⟨by simp [e1],?_⟩
  intro k o' x' hk hx
  cases k with
  | zero=>simp at hk hx;subst hk;subst hx;exact h1
  | succ k=>exact e2 k o' x' (by simpa using hk) (by simpa using hx)

theorem atz {out:Bool} {id:Nat} {ops:Array Oper} {l:List cK} {K:(Nat→Value)→ae→Prop} {f:Nat→Value} {h:ae} (hc:L4 P N ops=some l) (hi:jL P l 0 [] [] K f h):
  ∃f' h',fL P N out (.region id ops true) f h .normal f' h'∧K f' h':=by
 unfold L4 at hc
 split at hc
 ·rename_i ios Nn
  split at hc
  ·rename_i qo
   simp at hc
   simp only [Bool.and_eq_true] at qo
   obtain ⟨⟨Bl,n9⟩,um⟩:=qo
   rw [hc] at um
   obtain ⟨g1,g2⟩:=L7 Nn
   have Nu:ios.length≤(iA (ops.toList.map eG) []).length:=by rw [EH];simp [g1]
   obtain ⟨z1,z2⟩:=RL Nu
   rw [hc] at z1 z2
   have hlen:l.length=ops.size:=by rw [z1,g1];simp
   obtain ⟨F,H,V,f1,f2,f3,T,_,_⟩:=Og hi
   simp only [Nat.zero_add] at f3
   refine ⟨F l.length,H l.length,?_,f3⟩
   ·intro S hS B ρ a w R
    refine wpIn_region_draw ?_
    intro t
    have NT:Region.schedule (P.follows .mixedOrders) ops t=Region.linearise .any ops t:=by
     unfold Region.schedule
     rw [Bl]
     simp
    rw [NT]
    have bS:=abd n9 t
    have vV:∀j e,e∈(ops.toList.map eG).getD j []→e<j:=by
     intro j e he
     by_cases hj:j<ops.size
     ·have hg:ops.toList[j]?=some ops[j]:=by simp [hj]
      have:(ops.toList.map eG).getD j []=eG ops[j]:=by simp [List.getD,hj]
      rw [this] at he
      have:=Ds n9 j ops[j] hg e he
      omega
     ·have:(ops.toList.map eG).getD j []=[]:=by simp [List.getD,Nat.le_of_not_lt hj]
      rw [this] at he
      simp at he
    have Bn:∀(l:List cK) (i:Nat) (f:Nat→Value),dP V [] l i f=f:=by
     intro l
     induction l with
     | nil=>intro i f;rfl
     | cons a l ih=>intro i f;simp [dP,ih]
    have R1:Rel P N B ρ (dP V [] l 0 (F 0)) (H 0) a { w with drawn:=w.drawn+1 }:=by
     rw [Bn,f1,f2]
     exact R.mono (Tr.drew R.heap _) (R.heap.drew _)
    refine aqE T hlen ?_ ?_ vV um bS (fun j e hj=>by simp at hj) (fun i hi=>by simp at hi) 0 (by omega) (fun e oe _ _=>by simp) S B ρ a _ R1 _ ?_
    ·intro k o d hk hd
     exact g2 k o d.op (by simpa using hk) (z2 k d hd).1
    ·intro k d hd
     exact (z2 k d hd).2
    ·intro au a' w' R' T'
     refine ⟨rfl,au,R',?_⟩
     have T0:=Tr.drew R.heap (w.drawn+1)
     rw [f2] at T'
     exact T0.trans T'
  ·cases hc
 ·cases hc

end
end Go.Sim


namespace Go.Sim

section
variable {P : Program} {w : World} {ρ : aF} {h : ae}

theorem aT.alloc (H:aT P ρ h w) (b:Obj):aT P ρ h (w.alloc b)∧Tr ρ h w ρ h (w.alloc b):=by
 have nb:=iP.alloc w b
 refine ⟨⟨?_,H.inj,H.aV⟩,?_⟩
 ·intro i r hi
  obtain ⟨o,ho,hr⟩:=H.obj i r hi
  refine ⟨o,ho,?_⟩
  by_cases hd:o=.dead
  ·subst hd;trivial
  ·exact hr.mono (.refl _) (nb.old (zp H hi ⟨o,ho,hd⟩))
 ·exact {
   ext:=.refl _
   len:=Nat.le_refl _
   iB:=fun i r hi=>H.lt hi
   kinds:=fun i _ hm=>hm
   fresh:=fun i s h1 h2=>by rw [h1] at h2;cases h2
   gI:=by rw [nb.size];omega
   gf:=fun k hk _=>nb.old hk
   os:=nb.os
   tape:=nb.tape
   output:=nb.output }

theorem xp {l k:Nat} {o:Obj} (hk:k≠l):(w.putObj l o).heap[k]?=w.heap[k]?:=World.putObj_heap_other hk

theorem aT.put (H:aT P ρ h w) {l:Nat} (cW:∀j s,ρ j=some s→s.bj=l→¬isLive h j) (o:Obj):aT P ρ h (w.putObj l o):=by
 refine ⟨?_,H.inj,H.aV⟩
 intro i r hi
 obtain ⟨o',ho,hr⟩:=H.obj i r hi
 refine ⟨o',ho,?_⟩
 by_cases hd:o'=.dead
 ·subst hd;trivial
 ·refine hr.mono (.refl _) (xp ?_)
  intro e
  exact cW i r hi e ⟨o',ho,hd⟩

theorem aT.aaW (H:aT P ρ h w) {l:Nat} {rec:Loop} (hl:w.heap[l]?=some (.loop rec)) {j:Nat} {s:RI} (hj:ρ j=some s) (hs:s.bj=l) (hv:isLive h j):∃c ls vs,h[j]?=some (.loop c ls vs):=by
 obtain ⟨o,ho,br⟩:=hv
 obtain ⟨o',de,hr⟩:=H.obj j s hj
 rw [ho] at de
 cases de
 subst hs
 cases o with
 | ro e xs=>obtain ⟨_,c,_,fr,h2,_⟩:=hr;rw [hl] at h2;cases h2
 | arr e xs=>obtain ⟨_,_,c,h2,_⟩:=hr;rw [hl] at h2;cases h2
 | smap es=>obtain ⟨aJ,clock,h1,_⟩:=hr;rw [hl] at h1;cases h1
 | jw kd es=>obtain ⟨aJ,clock,h1,_⟩:=hr;rw [hl] at h1;cases h1
 | dQ g c es=>obtain ⟨_,aJ,h1,_⟩:=hr;rw [hl] at h1;cases h1
 | iter m s n l=>obtain ⟨_,rm,_,h1⟩:=hr;rw [hl] at h1;cases h1
 | loop c ls vs=>exact ⟨c,ls,vs,ho⟩
 | dead=>exact absurd rfl br

theorem Tr.late {au:aF} {h':ae} {w':World} (T:Tr ρ h w au h' w') {l:Nat} (hl:w.heap.size≤l) (o:Obj) (i:Nat):Tr ρ h w au (h'.set i .dead) (w'.putObj l o) where
 ext:=T.ext
 len:=by simpa using T.len
 iB:=T.iB
 kinds:=by
  intro j hj hm
  refine T.kinds j hj ?_
  by_cases e:j=i
  ·subst e
   have aC:j<h'.length:=Nat.lt_of_lt_of_le hj T.len
   unfold cf at hm
   rw [List.getElem?_set_self aC] at hm
   rcases hm with ⟨_,_,h1⟩ | ⟨_,h1⟩ | ⟨_,_,_,h1⟩ | ⟨_,_,h1⟩ | ⟨_,_,_,h1⟩ | ⟨_,_,_,_,h1⟩ <;> cases h1
  ·unfold cf at hm⊢
   rw [List.getElem?_set_ne (Ne.symm e)] at hm
   exact hm
 fresh:=T.fresh
 gI:=by rw [World.putObj_size];exact T.gI
 gf:=fun k hk cW=>by rw [xp (by omega)];exact T.gf k hk cW
 os:=T.os
 tape:=T.tape
 output:=T.output

theorem aT.kill (H:aT P ρ h w) (i:Nat):aT P ρ (h.set i .dead) w:=by
 have hm:∀j,cf (h.set i .dead) j→cf h j:=by
  intro j hj
  by_cases e:j=i
  ·subst e
   unfold cf at hj
   by_cases aC:j<h.length
   ·rw [List.getElem?_set_self aC] at hj
    rcases hj with ⟨_,_,h1⟩ | ⟨_,h1⟩ | ⟨_,_,_,h1⟩ | ⟨_,_,h1⟩ | ⟨_,_,_,h1⟩ | ⟨_,_,_,_,h1⟩ <;> cases h1
   ·rw [List.getElem?_eq_none (by simpa using Nat.le_of_not_lt aC)] at hj
    rcases hj with ⟨_,_,h1⟩ | ⟨_,h1⟩ | ⟨_,_,_,h1⟩ | ⟨_,_,h1⟩ | ⟨_,_,_,h1⟩ | ⟨_,_,_,_,h1⟩ <;> cases h1
  ·unfold cf at hj⊢
   rw [List.getElem?_set_ne (Ne.symm e)] at hj
   exact hj
 have hl:∀j,isLive (h.set i .dead) j→isLive h j:=by
  intro j hj
  by_cases e:j=i
  ·subst e
   obtain ⟨o,ho,br⟩:=hj
   by_cases aC:j<h.length
   ·rw [List.getElem?_set_self aC] at ho
    cases ho
    exact absurd rfl br
   ·rw [List.getElem?_eq_none (by simpa using Nat.le_of_not_lt aC)] at ho
    cases ho
  ·unfold isLive at hj⊢
   rw [List.getElem?_set_ne (Ne.symm e)] at hj
   exact hj
 refine ⟨?_,fun a b r s ha hb kQ h1 h2=>H.inj a b r s ha hb kQ (hm a h1) (hl b h2),H.aV⟩
 intro j r hj
 by_cases e:j=i
 ·subst e
  exact ⟨.dead,by rw [List.getElem?_set_self (H.lt hj)],trivial⟩
 ·obtain ⟨o,ho,hr⟩:=H.obj j r hj
  exact ⟨o,by rw [List.getElem?_set_ne (Ne.symm e)];exact ho,hr⟩

theorem azH {g:FuncId} {first cap:Array Value} (kM:p6 P g=true) (a:Act) (gx:Operand) (hy:a.eval gx=.func (.func g) first cap) (l:Nat) (w:World):
  ∃d,(resolve a.eval (rangeCall gx l) 0).run P w=.ok d w∧(invoke d.target d.args).run P w=.ok (.enter g (first++#[.func (.yield l) #[] #[]]++cap)) w:=by
 refine ⟨_,by simp [resolve,hy,Deferred.ofValue];rfl,?_⟩
 simp [invoke,LV kM,Act.eval]

theorem ahm {N:Nat} {g:Operand} {ps:Array Tmp} {jc body:Code} {ls:List Nat} {K:ae→Prop} {f:Nat→Value} (aB:iy g=true)
  (hi:rU P (ev f g) ls (ls.map f) ⟨N,ps,jc,body⟩ h K):∃h',fL P N true (.rangeFunc g ps jc body) f h .normal f h'∧K h':=by
 unfold rU at hi
 split at hi
 ·rename_i F first cap hx
  obtain ⟨kM,v,h',pg,⟨c',ls',iI,bN⟩,hk⟩:=hi
  refine ⟨_,?_,hk⟩
  intro S hS B ρ a w R
  obtain rfl:=hS rfl
  refine wpIn_rangeFunc fun fn _=>?_
  obtain ⟨H0,T0⟩:=R.heap.alloc (.deferred (some []))
  have jJ:(w.alloc (.deferred (some []))).heap.size=w.heap.size+1:=World.size_alloc _ _
  have nb:=iP.alloc (w.alloc (.deferred (some []))) (.loop { state:=.ready,pending:=none,fn,tmps:=a.tmps,params:=ps,assign:=jc,body,defers:=w.heap.size })
  obtain ⟨H1,T1⟩:=H0.new (h₀:=h) (o:=.loop ⟨N,ps,jc,body⟩ ls (ls.map f)) (r:=⟨w.heap.size+1,0,0,P.cellsOf 0,0⟩) nb jJ.symm rfl rfl (fun _=>.inl rfl)
   ⟨_,by rw [←jJ];exact nb.new,rfl,rfl,rfl,rfl,rfl,R.size,fun t=>by
    rcases BZ f ls t with e | e
    ·rw [e];exact (R.tmp t).mono (aF.rL R.heap.none)
    ·rw [e];exact .any _⟩
  have hr:=R.ev aB
  rw [hx] at hr
  generalize hy:a.eval g=y at hr
  cases hr with
  | func _ s1 s2 r1 r2=>
   rename_i My EJ
   obtain ⟨d,as5,hinv⟩:=azH (w:=((w.alloc (.deferred (some []))).alloc (.loop { state:=.ready,pending:=none,fn,tmps:=a.tmps,params:=ps,assign:=jc,body,defers:=w.heap.size }))) kM a g hy (w.heap.size+1)
   refine ⟨_,_,_,d,_,F,_,_,run_enterLoop_outer fn a.tmps ps jc body,as5,fun _ _=>trivial,hinv,fun h=>(by cases h),?_⟩
   have hle:=aF.rL (r:=⟨w.heap.size+1,0,0,P.cellsOf 0,0⟩) R.heap.none
   have qm:bn (ρ.add h.length ⟨w.heap.size+1,0,0,P.cellsOf 0,0⟩) (first.toList++[.func (.yield h.length) #[] #[]]++cap.toList) (My++#[Value.func (.yield (w.heap.size+1)) #[] #[]]++EJ).toList:=by
    have q1:=(bn.qU s1 r1).mono hle
    have q3:=(bn.qU s2 r2).mono hle
    have q2:bn (ρ.add h.length ⟨w.heap.size+1,0,0,P.cellsOf 0,0⟩) [.func (.yield h.length) #[] #[]] [.func (.yield (w.heap.size+1)) #[] #[]]:=
     .cons (aw.yield (i:=h.length) (r:=⟨w.heap.size+1,0,0,P.cellsOf 0,0⟩) (by simp [aF.add])) .nil
    simpa using (q1.append q2).append q3
   refine (Yf (pg _ _ _ qm H1) none _).mono ?_
   rintro e w3 ⟨v',au,rfl,hv,H3,T3⟩
   have N9:au h.length=some ⟨w.heap.size+1,0,0,P.cellsOf 0,0⟩:=T3.ext _ _ (by simp [aF.add])
   obtain ⟨o,ho,pz⟩:=H3.obj _ _ N9
   rw [bN] at ho
   cases ho
   obtain ⟨rec,g1,g2,g3,g4,g5,g6,g7,g8⟩:=pz
   have fF:=run_endLoop (P:=P) g1 (by rw [g2];decide)
   refine ⟨_,_,fF,?_⟩
   split
   rotate_left
   ·rename_i c hc;rw [g3] at hc;cases hc
   have TT:=(T0.trans (T1.trans T3))
   have Hk:=H3.kill h.length
   have asZ:aT P au (h'.set h.length .dead) (w3.putObj (w.heap.size+1) (.loop { rec with state:=.exhausted })):=by
    refine Hk.put ?_ _
    intro j s hj hs sN
    obtain ⟨c,_,_,hc⟩:=Hk.aaW g1 hj hs sN
    have br:j≠h.length:=by
     rintro rfl
     rw [List.getElem?_set_self (H3.lt N9)] at hc
     cases hc
    rw [List.getElem?_set_ne (Ne.symm br)] at hc
    exact br (H3.inj _ _ _ _ hj N9 hs (.inr (.inr (.inl ⟨_,_,_,hc⟩))) ⟨_,bN,by simp⟩)
   have TL:=TT.late (l:=w.heap.size+1) (by omega) (.loop { rec with state:=.exhausted }) h.length
   refine ⟨rfl,au,⟨R.size,?_,fun t=>(R.tmp t).mono TL.ext,asZ⟩,TL⟩
   have hD:(w3.putObj (w.heap.size+1) (.loop { rec with state:=.exhausted })).heap[w.heap.size]?=some (.deferred (some [])):=by
    rw [xp (by omega)]
    have e1:(w.alloc (.deferred (some []))).heap[w.heap.size]?=some (.deferred (some [])):=World.alloc_heap_new _ _
    have e2:=nb.old (k:=w.heap.size) (by omega)
    rw [T3.gf _ (by rw [nb.size];omega) ?_,e2,e1]
    intro j s hj hs hm
    exact H1.O0 (e2.trans e1) hj hs hm.live
   refine ⟨⟨w.heap.size,rfl,marks.base R.defers,hD,?_⟩,marks.tr R.heap TL R.defers⟩
   intro d' ph he
   obtain ⟨D,e1,e2⟩:=marks.lt R.defers d' ph
   rw [e1] at he
   have:=abq he
   omega
 ·exact hi.elim

end
end Go.Sim


namespace Go.Sim

section
variable {P : Program} {N : Nat}

theorem amr {a:kG} {g g':Operand→Value} (h:∀x∈a.fZ,g x=g' x):jR a g=jR a g':=by
 cases a with
 | alloc e zs=>rfl
 | lK e n zs ps=>
  simp only [jR]
  rw [Hb (ps:=ps) h]
 | make e b zs l c=>
  simp only [kG.fZ,List.mem_cons,List.not_mem_nil,or_false,forall_eq_or_imp,forall_eq] at h
  simp only [jR,h.1,h.2]
 | mX g=>rfl

theorem ams {a:kG} {g:Operand→Value} {V:Nat→Value} {o:aq} (h:jR a g=some (V,o)) {ρ au:aF} {i j:Nat} {v':Value} (e:au j=ρ i) (hv:aw ρ (V i) v'):aw au (V j) v':=by
 have ptr:V=(fun i=>.pointer (some ⟨i,0,none⟩))→aw au (V j) v':=by
  rintro rfl
  cases hv with
  | ptr hr=>exact .ptr (by rw [e];exact hr)
 have slc:∀t n,V=(fun i=>sl t i 0 n)→aw au (V j) v':=by
  rintro t n rfl
  cases hv with
  | slice hr a b c d=>exact .slice (by rw [e];exact hr) a b c d
 have mp:V=(fun i=>.map (some i))→aw au (V j) v':=by
  rintro rfl
  cases hv with
  | map hr=>exact .map (by rw [e];exact hr)
 cases a with
 | mX g=>simp [jR] at h;exact mp h.1.symm
 | alloc t zs=>simp [jR] at h;exact ptr h.1.symm
 | lK t n zs ps=>simp only [jR,Option.map_eq_some_iff,Prod.mk.injEq] at h;obtain ⟨_,_,h1,_⟩:=h;exact slc t n h1.symm
 | make t b zs l c=>
  simp only [jR] at h
  split at h
  ·split at h
   ·simp at h;exact slc t _ h.1.symm
   ·cases h
  ·cases h

theorem Ml {o:aq} {u:Value} (h:mI o=some u):(∃e xs,o=.arr e xs∧(∀x∈xs,qM x=true)∧u=.agg (.int .i64 e::xs).toArray)∨∃g,o=.dQ g 0 []∧u=.tuple #[AW g]:=by
 unfold mI at h
 split at h
 ·rename_i e xs
  split at h
  ·rename_i hx
   rw [List.all_eq_true] at hx
   injection h with h
   exact .inl ⟨e,xs,rfl,hx,h.symm⟩
  ·cases h
 ·rename_i g c es
  split at h
  ·rename_i hc
   obtain ⟨rfl,hc⟩:=hc
   rw [List.isEmpty_iff] at hc
   subst hc
   injection h with h
   exact .inr ⟨g,rfl,h.symm⟩
  ·cases h
 ·cases h

theorem ar3 {g g':fx} (h:AW g=AW g'):g=g':=by
 cases g <;> cases g' <;> simp [AW] at h <;> first | rfl | (subst h;rfl) | (obtain ⟨rfl,h⟩:=h;rw [Int.ofNat.inj h]) | (have:=Int.ofNat.inj h.2;rw [h.1,this])

theorem arA {o o':aq} {u:Value} (h:mI o=some u) (h':mI o'=some u):o=o':=by
 rcases Ml h with ⟨e,xs,rfl,_,h1⟩ | ⟨g,rfl,h1⟩ <;> rcases Ml h' with ⟨e',eC,rfl,_,h2⟩ | ⟨g',rfl,h2⟩
 ·rw [h1] at h2
  simp at h2
  obtain ⟨h3,h4⟩:=h2
  have yr:e=e':=Int.ofNat.inj h3
  rw [yr,h4]
 ·rw [h1] at h2;cases h2
 ·rw [h1] at h2;cases h2
 ·rw [h1] at h2
  simp at h2
  rw [ar3 h2]

theorem jO.qM {ρ au:aF} {w:World} {r:RI} {o:aq} (hx:(mI o).isSome=true) (h:jO ρ w r o):jO au w r o:=by
 obtain ⟨u,hu⟩:=Option.isSome_iff_exists.1 hx
 rcases Ml hu with ⟨e,xs,rfl,hx,_⟩ | ⟨g,rfl,_⟩
 ·obtain ⟨h1,h0,c,h2,h3,h4⟩:=h
  refine ⟨h1,h0,c,h2,h3,fun j x hj=>?_⟩
  obtain ⟨c1,y,hy,hr⟩:=h4 j x hj
  exact ⟨c1,y,hy,qM.rel (hx x (List.mem_of_getElem? hj)) hr⟩
 ·obtain ⟨h0,aJ,h1,h2,h3⟩:=h
  exact ⟨h0,aJ,h1,h2,fun j b k v hj=>by simp at hj⟩

theorem aT.take {ρ au:aF} {h:ae} {w w':World} {o:aq} {p:Nat} (R:aT P ρ h w) (hp:h[p]?=some o) (hx:(mI o).isSome=true) (hn:ρ p=Option.none)
  (H':aT P au (h++[o]) w') (T:Tr ρ h w au (h++[o]) w'):aT P (fun k=>if k=p then au h.length else ρ k) h w':=by
 have kP:=(List.getElem?_eq_some_iff.1 hp).1
 have new:(h++[o])[h.length]?=some o:=by simp
 have old:∀k,k<h.length→(h++[o])[k]?=h[k]?:=fun k hk=>List.getElem?_append_left hk
 have hle:ρ.le fun k=>if k=p then au h.length else ρ k:=by
  intro k r hr
  have:k≠p:=by rintro rfl;rw [hn] at hr;cases hr
  simp [this,hr]
 have mt:∀k,k<h.length→(cf h k↔cf (h++[o]) k):=fun k hk=>by unfold cf;rw [old k hk]
 have BQ:∀k,k<h.length→(isLive h k↔isLive (h++[o]) k):=fun k hk=>by unfold isLive;rw [old k hk]
 have OV:cf h p↔cf (h++[o]) h.length:=by unfold cf;rw [new,hp]
 have OJ:isLive h p↔isLive (h++[o]) h.length:=by unfold isLive;rw [new,hp]
 refine ⟨?_,?_,?_⟩
 ·intro k r hr
  by_cases hk:k=p
  ·subst hk
   simp only [if_true] at hr
   obtain ⟨o',de,lF⟩:=H'.obj _ r hr
   rw [new] at de
   cases de
   exact ⟨_,hp,jO.qM hx lF⟩
  ·simp only [if_neg hk] at hr
   obtain ⟨o',de,lF⟩:=R.obj k r hr
   obtain ⟨o2,Bp,NL⟩:=H'.obj k r (T.ext k r hr)
   rw [old k (R.lt hr),de] at Bp
   cases Bp
   exact ⟨o',de,(lF.down T.ext NL).mono hle rfl⟩
 ·intro a b r s ha hb kQ hm hl
  by_cases ea:a=p <;> by_cases eb:b=p
  ·omega
  ·subst ea
   simp only [if_true] at ha
   simp only [if_neg eb] at hb
   have vX:=R.lt hb
   have:=H'.inj h.length b r s ha (T.ext b s hb) kQ (OV.1 hm) ((BQ b vX).1 hl)
   omega
  ·subst eb
   simp only [if_true] at hb
   simp only [if_neg ea] at ha
   have pc:=R.lt ha
   have:=H'.inj a h.length r s (T.ext a r ha) hb kQ ((mt a pc).1 hm) (OJ.1 hl)
   omega
  ·simp only [if_neg ea] at ha
   simp only [if_neg eb] at hb
   exact H'.inj a b r s (T.ext a r ha) (T.ext b s hb) kQ ((mt a (R.lt ha)).1 hm) ((BQ b (R.lt hb)).1 hl)
 ·intro k r hr
  by_cases hk:k=p
  ·subst hk;simp only [if_true] at hr;exact H'.aV _ r hr
  ·simp only [if_neg hk] at hr;exact R.aV k r hr

theorem Tr.take {xF ρ au:aF} {hb h:ae} {wb w w':World} {o:aq} {p:Nat} (TB:Tr xF hb wb ρ h w) (hpb:hb.length≤p) (hn:ρ p=Option.none) (T:Tr ρ h w au (h++[o]) w'):
  Tr xF hb wb (fun k=>if k=p then au h.length else ρ k) h w':=by
 have TT:=TB.trans T
 exact {
  ext:=by
   intro k r hr
   have:=TB.ext k r hr
   have hk:k≠p:=by rintro rfl;rw [hn] at this;cases this
   simp [hk,this]
  len:=TB.len
  iB:=TB.iB
  kinds:=TB.kinds
  fresh:=by
   intro k r hr fD
   by_cases hk:k=p
   ·subst hk
    simp only [if_true] at hr
    have hbn:xF h.length=none:=by
     cases hq:xF h.length with
     | none=>rfl
     | some q=>have:=TB.iB _ _ hq;have:=TB.len;omega
    exact ⟨hpb,(TT.fresh _ r hr hbn).2⟩
   ·simp only [if_neg hk] at hr
    exact TB.fresh k r hr fD
  gI:=TT.gI
  gf:=TT.gf
  os:=TT.os
  tape:=TT.tape
  output:=TT.output }

theorem yl {l:List cK} {F:Nat→Nat→Value} {H:Nat→ae} {V:Nat→Value} (T:Trace P l 0 F H V) {q:Nat} {d:cK} {a:kG} (hq:l[q]?=some d) (ho:d.op.op=.e (.fl a)) (hg:d.op.guard=none):
  ∃Vf o,jR a (ev (F q))=some (Vf,o)∧V q=Vf (H q).length∧H (q+1)=H q++[o]∧(mI o).isSome=true∧dH (H (q+1)) (V q)=mI o∧
   ∀e' oe,l[e']?=some oe→oe.op.op.c7=true→q<e'→oe.pre.testBit q=false→dH (H (e'+1)) (V q)=mI o:=by
 have hw:gH d.op.guard (F (0+q))=true:=by rw [hg];rfl
 have hy:=T.yes q d hq hw
 obtain ⟨u,u1,u2⟩:=T.YV q d a hq ho hw
 simp only [Nat.zero_add] at hy u1 u2
 rw [ho] at hy
 simp only [cQ,lL,aaL] at hy
 cases pc:jR a (ev (F q)) with
 | none=>rw [pc] at hy;exact hy.elim
 | some p=>
  obtain ⟨Vf,o⟩:=p
  rw [pc] at hy
  simp only [Option.map_some] at hy
  obtain ⟨h1,h2⟩:=hy
  have gD:=La pc (H q).length
  rw [h1] at gD
  have Bc:dH (H (q+1)) (V q)=mI o:=by
   unfold dH
   rw [gD,←h2]
   simp
  rw [Bc] at u1
  exact ⟨Vf,o,rfl,h1.symm,h2.symm,by rw [u1];rfl,Bc,fun e' oe he hE aC hp=>(u2 e' oe he hE aC hp).trans u1.symm⟩

def JC (l:List cK) (S:List Nat) (m:Nat):Prop:=∀e oe,l[e]?=some oe→oe.op.op.c7=true→gG oe=false→(e∈S↔e<m)

theorem wV {o:cK}:gG o=true↔∃a,o.op.op=.e (.fl a):=by
 unfold gG
 constructor
 ·intro h
  split at h
  ·rename_i a ha;exact ⟨a,ha⟩
  ·cases h
 ·rintro ⟨a,ha⟩;rw [ha]

structure Laid (P:Program) (N:Nat) (ops:Array Oper) (l:List cK) (perm:Nat→Nat) (mF:Nat):Prop where
 len:l.length=ops.size
 lt:∀q,q<ops.size→perm q<ops.size
 inj:∀q k,q<ops.size→k<ops.size→perm q=perm k→q=k
 sur:∀j,j<ops.size→∃q,q<ops.size∧perm q=j
 comp:∀q o d,ops[perm q]?=some o→l[q]?=some d→∃x,vH P N ops o=some x∧x.dst=d.op.dst∧x.guard=d.op.guard∧tmpsOf x.op.fZ=tmpsOf d.op.op.fZ∧((gG d=false∧x.op=d.op.op)∨∃a,x.op=.e a.Cv∧d.op.op=.e (.fl a)∧d.op.guard=none)
 pre:∀q d,l[q]?=some d→∀k,k<ops.size→d.pre.testBit k=((iA (ops.toList.map eG) []).getD (perm q) 0).testBit (perm k)
 back:∀j e,e∈(ops.toList.map eG).getD j []→e<j
 zC:∀i j oi oj,l[i]?=some oi→l[j]?=some oj→zB oj j oi i=true
 head:mF≤l.length
 low:∀q d,l[q]?=some d→q<mF→d.op.op.c7=true→gG d=true
 high:∀q d,l[q]?=some d→mF≤q→gG d=false

theorem aga {oi oj:cK} {i j t:Nat} (h:zB oj j oi i=true) (br:i≠j) (hd:oi.op.dst=some t) (ht:rZ oj t=true):(if i<j then oj.pre.testBit i else oi.pre.testBit j)=true:=by
 unfold zB at h
 rw [hd] at h
 simp only [Bool.and_eq_true,Bool.or_eq_true,beq_iff_eq,ht,Bool.not_true,Bool.false_eq_true,false_or] at h
 rcases h.1 with h | h
 ·exact absurd h br
 ·exact h

theorem Qq {oi oj:cK} {i j:Nat} (h:zB oj j oi i=true) (aC:i<j) (hi:oi.op.op.c7=true) (hj:oj.op.op.c7=true) (fi:gG oi=false) (fj:gG oj=false):oj.pre.testBit i=true:=by
 unfold zB at h
 simp only [Bool.and_eq_true,aC,decide_true,hi,hj,fi,fj,Bool.and_self,Bool.not_true,Bool.not_false,Bool.false_or] at h
 exact h.2

theorem ui {ops:Array Oper} {l:List cK} {perm:Nat→Nat} {mF:Nat} (L:Laid P N ops l perm mF) (lD:∀(q:Nat) (d:cK),l[q]?=some d→gG d=true→d.op.guard=none) {F:Nat→Nat→Value} {H:Nat→ae} {V:Nat→Value} (T:Trace P l 0 F H V) {k:Nat}:∀(d:Nat),k+d≤mF→∃os,H (k+d)=H k++os
 | 0,_=>⟨[],by simp⟩
 | d+1,hd=>by
  obtain ⟨os,gE⟩:=ui L lD T (k:=k) d (by omega)
  have aC:k+d<l.length:=by have:=L.head;omega
  have bN:l[k+d]?=some l[k+d]:=List.getElem?_eq_getElem aC
  rw [show k+(d+1)=k+d+1 by omega]
  cases hE:l[k+d].op.op.c7 with
  | true=>
   have hf:=L.low (k+d) _ bN (by omega) hE
   obtain ⟨a,ha⟩:=wV.1 hf
   obtain ⟨_,oo,_,_,h3,_⟩:=yl T bN ha (lD _ _ bN hf)
   exact ⟨os++[oo],by rw [h3,gE];simp⟩
  | false=>
   have:=IL T (i:=k+d) 1 (by omega) (fun e oe h1 h2 h3=>by
    have:e=k+d:=by omega
    subst this
    rw [bN] at h1
    cases h1
    rw [hE] at h2
    cases h2)
   exact ⟨os,by rw [this,gE]⟩

theorem aqF {ops:Array Oper} {l:List cK} {perm:Nat→Nat} {mF:Nat} (L:Laid P N ops l perm mF) (lD:∀(q:Nat) (d:cK),l[q]?=some d→gG d=true→d.op.guard=none) {F:Nat→Nat→Value} {H:Nat→ae} {V:Nat→Value} (T:Trace P l 0 F H V)
  {xF:aF} {wb:World} {S r:List Nat} (hv:Valid ops S r):
  Ab (ops.toList.map eG) S→(∀i∈S,i<ops.size)→∀Sp,(∀q,q∈Sp↔q<ops.size∧perm q∈S)→∀m,mF≤m→m≤l.length→JC l Sp m→∀S' B ρ a w,Rel P N B ρ (dP V Sp l 0 (F 0)) (H m) a w→(H mF).length≤(H m).length→
   (∀(q:Nat) (d:cK),l[q]?=some d→gG d=true→q∉Sp→ρ (H q).length=none∧dH (H m) (V q)=dH (H (q+1)) (V q))→Tr xF (H 0) wb ρ (H m) w→∀Q:Exit→Act→World→Prop,
   (∀au a' w',Rel P N B au (F l.length) (H l.length) a' w'→Tr xF (H 0) wb au (H l.length) w'→Q .normal a' w')→wpOpsIn (FR S') 0 P ops Q r a w:=by
 induction hv with
 | nil eW=>
  rename_i S
  intro fh aC Sp yv m Bk hm dM S' B ρ a w R _ _ TB Q hq
  have iQ:∀q,q<l.length→q∈Sp:=fun q hq=>(yv q).2 ⟨by rw [←L.len];exact hq,eW _ (L.lt q (by rw [←L.len];exact hq))⟩
  have hF:dP V Sp l 0 (F 0)=F l.length:=by
   have h1:=AU T l 0 (List.range l.length) l.length (fun k=>by simp) (fun k=>by simp) (by omega) (by omega)
   rw [←h1]
   funext t
   refine ua (fun k d hk _=>?_) rfl
   have fO:=(List.getElem?_eq_some_iff.1 hk).1
   simp only [Nat.zero_add,List.mem_range]
   exact ⟨fun _=>fO,fun _=>iQ k fO⟩
  have hH:H l.length=H m:=by
   refine oP T hm (Nat.le_refl _) ?_
   rintro e oe he hE ⟨h1,h2⟩
   have:=(dM e oe he hE (L.high e oe he (by omega))).1 (iQ e h2)
   omega
  rw [hF] at R
  simp only [wpOpsIn]
  exact hq ρ a w (by rw [hH];exact R) (by rw [hH];exact TB)
 | cons sQ sP wh hvr ih=>
  rename_i S j0 o r
  intro fh aC Sp yv m Bk hm dM S' B ρ a w R hlen oc TB Q hq
  have ZN:j0<ops.size:=(Array.getElem?_eq_some_iff.1 sQ).1
  obtain ⟨j,sL,rD⟩:=L.sur j0 ZN
  have pj:j<l.length:=by rw [L.len];exact sL
  have bN:l[j]?=some (l[j]'pj):=List.getElem?_eq_getElem _
  generalize hd0:l[j]'pj=d at bN
  obtain ⟨x,hc,x1,x2,x3,x4⟩:=L.comp j o d (by rw [rD];exact sQ) bN
  obtain ⟨q1,q2,q3,q4,q5⟩:=AH hc
  rw [x2] at q4
  rw [x1] at q5
  have Nz:j∉Sp:=fun h=>sP (by rw [←rD];exact ((yv j).1 h).2)
  have jd:(ops.toList.map eG).getD j0 []=eG o:=by
   simp [List.getD,sQ]
  have rA:Ab (ops.toList.map eG) (j0::S):=by
   intro k e hk he
   rcases List.mem_cons.1 hk with rfl | hk
   ·rw [jd] at he
    exact List.mem_cons_of_mem _ (wh e he)
   ·exact List.mem_cons_of_mem _ (fh k e hk he)
  have A2:∀q,q∈j::Sp↔q<ops.size∧perm q∈j0::S:=by
   intro q
   rw [List.mem_cons,List.mem_cons,yv]
   constructor
   ·rintro (rfl | ⟨h1,h2⟩)
    ·exact ⟨sL,.inl rD⟩
    ·exact ⟨h1,.inr h2⟩
   ·rintro ⟨h1,h2 | h2⟩
    ·exact .inl (L.inj q j h1 sL (h2.trans rD.symm))
    ·exact .inr ⟨h1,h2⟩
  have before:∀i,i<ops.size→d.pre.testBit i=true→i∈Sp:=by
   intro i hi hb
   rw [L.pre j d bN i hi,rD] at hb
   exact (yv i).2 ⟨hi,Hg fh L.back j0 (perm i) (by rw [jd];exact wh) hb⟩
  have behind:∀k dk,l[k]?=some dk→dk.pre.testBit j=true→k∉Sp:=by
   intro k dk hk hb Bh
   have hkn:k<ops.size:=by rw [←L.len];exact (List.getElem?_eq_some_iff.1 hk).1
   rw [L.pre k dk hk j sL,rD] at hb
   have asL:=((yv k).1 Bh).2
   exact sP (Hg fh L.back (perm k) j0 (fun e he=>fh (perm k) e asL he) hb)
  have idx:∀{k dk},l[k]?=some dk→k<ops.size:=fun hk=>by rw [←L.len];exact (List.getElem?_eq_some_iff.1 hk).1
  have slot:∀t,rZ d t=true→dP V Sp l 0 (F 0) t=F j t:=by
   intro t ht
   have h1:=AU T l 0 (List.range j) j (fun k=>by simp) (fun k=>by simp) (by omega) (by omega)
   rw [←h1]
   refine ua (fun k dk hk we=>?_) rfl
   simp only [Nat.zero_add,List.mem_range]
   by_cases pn:k=j
   ·subst pn
    exact ⟨fun h=>absurd h Nz,fun h=>absurd h (Nat.lt_irrefl _)⟩
   ·have hp:=aga (L.zC k j dk d hk bN) pn we ht
    by_cases kO:k<j
    ·rw [if_pos kO] at hp
     exact ⟨fun _=>kO,fun _=>before k (idx hk) hp⟩
    ·rw [if_neg kO] at hp
     exact ⟨fun h=>absurd h (behind k dk hk hp),fun h=>absurd h kO⟩
  have wG:∀t∈d.op.reads,dP V Sp l 0 (F 0) t=F j t:=fun t ht=>slot t (by simp [rZ,ht])
  have yJ:∀t∈tmpsOf d.op.op.fZ,dP V Sp l 0 (F 0) t=F j t:=fun t ht=>wG t (by simp [gM.reads,ht])
  have BC:gH d.op.guard (dP V Sp l 0 (F 0))=gH d.op.guard (F j):=by
   cases hg:d.op.guard with
   | none=>rfl
   | some sb=>
    obtain ⟨s,b⟩:=sb
    simp only [gH]
    rw [wG s (by simp [gM.reads,hg])]
  have Ni:qk d.op.guard (dP V Sp l 0 (F 0)):=by
   have:=T.MQ j d bN
   simp only [Nat.zero_add] at this
   cases hg:d.op.guard with
   | none=>trivial
   | some sb=>
    obtain ⟨s,b⟩:=sb
    rw [hg] at this
    simp only [qk] at this⊢
    rw [wG s (by simp [gM.reads,hg])]
    exact this
  have BD:=Cy q4 R Ni
  have iR:dP V (j::Sp) l 0 (F 0)=db (dP V Sp l 0 (F 0)) o.dst (V j):=by
   rw [←q5]
   funext t
   by_cases ko:d.op.dst=some t
   ·have h1:=MD (V:=V) (S:=j::Sp) (l:=l) (i:=0) (f:=F 0) (k:=j) (d:=d) bN ko (by simp) (by
     intro k' d' bV ph kO
     have hp:=aga (L.zC k' j d' d bV bN) (by omega) ph (by simp [rZ,ko])
     rw [if_neg (by omega)] at hp
     have:=behind k' d' bV hp
     simp only [Nat.zero_add,List.mem_cons,not_or]
     exact ⟨by omega,this⟩)
    rw [h1]
    simp [ko,db,qV]
   ·have h1:dP V (j::Sp) l 0 (F 0) t=dP V Sp l 0 (F 0) t:=by
     refine ua (fun k dk hk we=>?_) rfl
     have pn:k≠j:=by
      rintro rfl
      rw [bN] at hk
      cases hk
      exact ko we
     simp [pn]
    rw [h1]
    cases wc:d.op.dst with
    | none=>rfl
    | some y=>
     have:t≠y:=by rintro rfl;exact ko wc
     simp [db,qV,this]
  have ky:∀i∈j0::S,i<ops.size:=by
   intro i hi
   rcases List.mem_cons.1 hi with rfl | hi
   ·exact ZN
   ·exact aC i hi
  -- aBh still to aqo stay p5 aBN are
  have Co:∀q dq,l[q]?=some dq→gG dq=true→q<mF:=by
   intro q dq hq hf
   apply Classical.byContradiction
   intro h
   rw [L.high q dq hq (by omega)] at hf
   cases hf
  have ayQ:∀q dq,l[q]?=some dq→gG dq=true→(H q).length<(H mF).length:=by
   intro q dq hq hf
   have hqm:=Co q dq hq hf
   obtain ⟨a,ha⟩:=wV.1 hf
   obtain ⟨_,oo,_,_,h3,_⟩:=yl T hq ha (lD _ _ hq hf)
   obtain ⟨os,gE⟩:=ui L lD T (k:=q+1) (mF-(q+1)) (by omega)
   rw [show q+1+(mF-(q+1))=mF by omega,h3] at gE
   rw [gE]
   simp
  have aa5:∀{au:aF} {h':ae} {w':World},Tr ρ (H m) w au h' w'→∀q dq,l[q]?=some dq→gG dq=true→ρ (H q).length=none→au (H q).length=none:=by
   intro au h' w' TT q dq hq hf hn
   cases hr:au (H q).length with
   | none=>rfl
   | some s=>
    have:=(TT.fresh _ s hr hn).1
    have:=ayQ q dq hq hf
    omega
  -- ft Cs,where ft operation writes memory
  have Ct:d.op.op.c7=true→gG d=false→mF≤j∧H m=H j∧JC l (j::Sp) (j+1):=by
   intro hE py
   have Bg:mF≤j:=by
    apply Classical.byContradiction
    intro h
    rw [L.low j d bN (by omega) hE] at py
    cases py
   have og:m≤j:=by
    apply Classical.byContradiction
    intro h
    exact Nz ((dM j d bN hE py).2 (by omega))
   refine ⟨Bg,?_,?_⟩
   ·refine (oP T og (by omega) ?_).symm
    rintro e oe he kn ⟨h1,h2⟩
    have sJ:=L.high e oe he (by omega)
    have hb:=Qq (L.zC e j oe d he bN) h2 kn hE sJ py
    have:=(dM e oe he kn sJ).1 (before e (idx he) hb)
    omega
   ·intro e oe he kn sJ
    rcases Nat.lt_trichotomy e j with kO | rfl | qw
    ·have hb:=Qq (L.zC e j oe d he bN) kO kn hE sJ py
     exact ⟨fun _=>by omega,fun _=>List.mem_cons_of_mem _ (before e (idx he) hb)⟩
    ·exact ⟨fun _=>by omega,fun _=>by simp⟩
    ·have hb:=Qq (L.zC j e d oe bN he) qw hE kn py sJ
     have:=behind e oe he hb
     constructor
     ·intro h
      rcases List.mem_cons.1 h with h | h
      ·omega
      ·exact absurd h this
     ·intro h;omega
  have zK:(d.op.op.c7=false∨gG d=true)→JC l (j::Sp) m:=by
   intro hE e oe he kn sJ
   have br:e≠j:=by
    rintro rfl
    rw [bN] at he
    cases he
    rcases hE with hE | hE
    ·rw [hE] at kn;cases kn
    ·rw [hE] at sJ;cases sJ
   rw [←dM e oe he kn sJ]
   simp [br]
  have BG:=T.yes j d bN
  have cW:=T.no j d bN
  simp only [Nat.zero_add] at BG cW
  simp only [wpOpsIn,sQ]
  by_cases hw:gH d.op.guard (F j)=true
  ·rw [if_pos (by rw [BD,BC,hw])]
   have hs:=BG hw
   rcases x4 with ⟨py,RK⟩ | ⟨aa,RK,Md,dg⟩
   ·rw [RK] at q3
    by_cases hE:d.op.op.c7=true
    ·obtain ⟨e0,e1,e2⟩:=Ct hE py
     rw [←HW yJ,←e1] at hs
     obtain ⟨v,h',st,hv,hh⟩:=xl (N:=N) q3 q1 hs
     subst hv
     subst hh
     refine st S' B ρ a w R _ _ ?_
     intro au v' w' sX HH TT
     have R':=R.rS q2 TT sX HH
     rw [←iR] at R'
     refine ih rA ky (j::Sp) A2 (j+1) (by omega) (by omega) e2 S' B au _ w' R' (Nat.le_trans hlen TT.len) ?_ (TB.trans TT) Q hq
     intro q dq fJ hf oq
     have Z5:q∉Sp:=fun h=>oq (List.mem_cons_of_mem _ h)
     obtain ⟨i1,i2⟩:=oc q dq fJ hf Z5
     refine ⟨aa5 TT q dq fJ hf i1,?_⟩
     obtain ⟨a',nZ⟩:=wV.1 hf
     obtain ⟨_,oo,_,_,_,_,h5,h6⟩:=yl T fJ nZ (lD _ _ fJ hf)
     rw [h5]
     refine h6 j d bN hE (by have:=Co q dq fJ hf;omega) ?_
     cases hb:d.pre.testBit q with
     | false=>rfl
     | true=>exact absurd (before q (idx fJ) hb) Z5
    ·have fg:d.op.op.c7=false:=by simpa using hE
     -- pQ is looked at has one value at this Cs and in ft aBG order
     have dw:cQ P d.op.op (dP V Sp l 0 (F 0)) (H m) fun v h'=>v=V j∧h'=H m:=by
      rw [HW yJ]
      cases cN:d.op.op with
      | p po=>
       rw [cN] at hs
       simp only [cQ,eO] at hs⊢
       split at hs
       ·exact ⟨hs.1,trivial⟩
       ·exact hs.elim
      | l lo=>
       have yP:eK lo (ev (F j)) (H j)=some (V j):=by
        rw [cN] at hs
        simp only [cQ,eO] at hs
        split at hs
        ·rename_i v hv
         rw [hv,hs.1]
        ·exact hs.elim
       -- from a place at or behind ft head,to a Cs before it
       have down:mF≤j→m≤j→eK lo (ev (F j)) (H m)=some (V j):=by
        intro Bg og
        by_cases hex:∃e oe,l[e]?=some oe∧oe.op.op.c7=true∧m≤e∧e<j
        ·have key:∀n,(∃e oe,l[e]?=some oe∧oe.op.op.c7=true∧m≤e∧e<j∧e<n)→∃e oe,l[e]?=some oe∧oe.op.op.c7=true∧m≤e∧e<j∧∀e' hO,l[e']?=some hO→hO.op.op.c7=true→¬(m≤e'∧e'<e):=by
          intro n
          induction n with
          | zero=>rintro ⟨e,oe,_,_,_,_,h⟩;omega
          | succ n qG=>
           rintro ⟨e,oe,h1,h2,h3,h4,h5⟩
           by_cases dL:∃e oe,l[e]?=some oe∧oe.op.op.c7=true∧m≤e∧e<j∧e<n
           ·exact qG dL
           ·refine ⟨e,oe,h1,h2,h3,h4,?_⟩
            rintro e' hO k1 k2 ⟨k3,k4⟩
            exact dL ⟨e',hO,k1,k2,k3,by omega,by omega⟩
         obtain ⟨e0,xk,g1,g2,g3,g4⟩:=hex
         obtain ⟨e,oe,h1,h2,h3,h4,h5⟩:=key j ⟨e0,xk,g1,g2,g3,g4,g4⟩
         have vT:H e=H m:=oP T h3 (by omega) (fun e' hO k1 k2 k3=>h5 e' hO k1 k2 k3)
         rw [←vT]
         have pv:d.pre.testBit e=false:=by
          cases hb:d.pre.testBit e with
          | false=>rfl
          | true=>
           have:=(dM e oe h1 h2 (L.high e oe h1 (by omega))).1 (before e (idx h1) hb)
           omega
         have:=T.Qt e oe j d lo h1 h2 bN cN (by simpa using hw) h4 (by simpa using pv)
         simpa using this
        ·have vU:H j=H m:=oP T og (by omega) (fun e oe h1 h2 h3=>hex ⟨e,oe,h1,h2,h3⟩)
         rw [←vU]
         exact yP
       -- to a Cs behind it,from where ft value is known
       have up:∀b,j≤b→mF≤b→b≤m→eK lo (ev (F j)) (H b)=some (V j)→eK lo (ev (F j)) (H m)=some (V j):=by
        intro b ZM hbF M3 hbv
        by_cases hex:∃e oe,l[e]?=some oe∧oe.op.op.c7=true∧b≤e∧e<m
        ·have key:∀n,(∃e oe,l[e]?=some oe∧oe.op.op.c7=true∧b≤e∧e<m∧m≤e+n)→∃e oe,l[e]?=some oe∧oe.op.op.c7=true∧b≤e∧e<m∧∀e' hO,l[e']?=some hO→hO.op.op.c7=true→¬(e+1≤e'∧e'<m):=by
          intro n
          induction n with
          | zero=>rintro ⟨e,oe,_,_,_,_,h⟩;omega
          | succ n qG=>
           rintro ⟨e,oe,h1,h2,h3,h4,h5⟩
           by_cases dL:∃e oe,l[e]?=some oe∧oe.op.op.c7=true∧b≤e∧e<m∧m≤e+n
           ·exact qG dL
           ·refine ⟨e,oe,h1,h2,h3,h4,?_⟩
            rintro e' hO k1 k2 ⟨k3,k4⟩
            exact dL ⟨e',hO,k1,k2,by omega,by omega,by omega⟩
         obtain ⟨e0,xk,g1,g2,g3,g4⟩:=hex
         obtain ⟨e,oe,h1,h2,h3,h4,h5⟩:=key m ⟨e0,xk,g1,g2,g3,g4,by omega⟩
         have br:e≠j:=by
          rintro rfl
          rw [bN] at h1
          cases h1
          rw [fg] at h2
          cases h2
         have vT:H m=H (e+1):=oP T (by omega) hm (fun e' hO k1 k2 k3=>h5 e' hO k1 k2 k3)
         rw [vT]
         have pv:oe.pre.testBit j=false:=by
          cases hb:oe.pre.testBit j with
          | false=>rfl
          | true=>exact absurd ((dM e oe h1 h2 (L.high e oe h1 (by omega))).2 h4) (behind e oe h1 hb)
         have:=T.ME j d lo e oe bN cN (by simpa using hw) h1 h2 (by omega) (by simpa using pv)
         simpa using this
        ·have vU:H m=H b:=oP T M3 hm (fun e oe h1 h2 h3=>hex ⟨e,oe,h1,h2,h3⟩)
         rw [vU]
         exact hbv
       have bS:eK lo (ev (F j)) (H m)=some (V j):=by
        by_cases Bg:mF≤j
        ·rcases Nat.le_total m j with og | og
         ·exact down Bg og
         ·exact up j (Nat.le_refl _) Bg og yP
        ·obtain ⟨os,gE⟩:=ui L lD T (k:=j) (mF-j) (by omega)
         rw [show j+(mF-j)=mF by omega] at gE
         refine up mF (by omega) (Nat.le_refl _) Bk ?_
         rw [gE]
         exact atF os yP
       simp [cQ,eO,bS]
      | e eo=>rw [cN] at fg;cases fg
      | call g args=>rw [cN] at fg;cases fg
      | jE x args=>rw [cN] at fg;cases fg
     obtain ⟨v,h',st,hv,hh⟩:=xl (N:=N) q3 q1 dw
     subst hv
     subst hh
     refine st S' B ρ a w R _ _ ?_
     intro au v' w' sX HH TT
     have R':=R.rS q2 TT sX HH
     rw [←iR] at R'
     refine ih rA ky (j::Sp) A2 m Bk hm (zK (.inl fg)) S' B au _ w' R' hlen ?_ (TB.trans TT) Q hq
     intro q dq fJ hf oq
     obtain ⟨i1,i2⟩:=oc q dq fJ hf (fun h=>oq (List.mem_cons_of_mem _ h))
     exact ⟨aa5 TT q dq fJ hf i1,i2⟩
   ·-- a new object
    have hf:gG d=true:=wV.2 ⟨aa,Md⟩
    obtain ⟨Vf,oo,h1,h2,h3,h4,h5,h6⟩:=yl T bN Md dg
    obtain ⟨i1,i2⟩:=oc j d bN hf Nz
    have pc:jR aa (ev (dP V Sp l 0 (F 0)))=some (Vf,oo):=by
     rw [←h1]
     refine amr (Mq fun t ht=>yJ t ?_)
     rw [Md]
     exact ht
    have gD:=La h1 (H j).length
    rw [←h2] at gD
    have asT:(H m)[(H j).length]?=some oo:=by
     rw [h5] at i2
     unfold dH at i2
     rw [gD] at i2
     simp only [Option.bind_some] at i2
     cases ho:(H m)[(H j).length]? with
     | none=>
      rw [ho] at i2
      obtain ⟨u,hu⟩:=Option.isSome_iff_exists.1 h4
      rw [hu] at i2
      cases i2
     | some o'=>
      rw [ho] at i2
      obtain ⟨u,Bc⟩:=Option.isSome_iff_exists.1 h4
      simp only [Option.bind_some] at i2
      rw [arA (i2.trans Bc) Bc]
    have atk:cQ P x.op (dP V Sp l 0 (F 0)) (H m) fun v h'=>v=Vf (H m).length∧h'=H m++[oo]:=by
     rw [RK]
     simp only [cQ,lL,atE,aaL,pc,Option.map_some]
     exact ⟨trivial,trivial⟩
    obtain ⟨v,h',st,hv,hh⟩:=xl (N:=N) q3 q1 atk
    subst hv
    subst hh
    refine st S' B ρ a w R _ _ ?_
    intro au v' w' sX HH TT
    have HR:=R.heap.take asT h4 i1 HH TT
    have hle:ρ.le fun k=>if k=(H j).length then au (H m).length else ρ k:=by
     intro k s hk
     have:k≠(H j).length:=by rintro rfl;rw [i1] at hk;cases hk
     simp [this,hk]
    have R1:Rel P N B (fun k=>if k=(H j).length then au (H m).length else ρ k) (dP V Sp l 0 (F 0)) (H m) a w':=⟨R.size,marks.tr R.heap TT R.defers,fun t=>(R.tmp t).mono hle,HR⟩
    have wK:aw (fun k=>if k=(H j).length then au (H m).length else ρ k) (V j) v':=by
     rw [h2]
     exact ams h1 (by simp) sX
    have R':=R1.rS q2 (Tr.refl HR) wK HR
    rw [←iR] at R'
    have ZM:(H 0).length≤(H j).length:=by
     obtain ⟨os,gE⟩:=ui L lD T (k:=0) j (by have:=Co j d bN hf;omega)
     rw [Nat.zero_add] at gE
     rw [gE];simp
    refine ih rA ky (j::Sp) A2 m Bk hm (zK (.inr hf)) S' B _ _ w' R' hlen ?_ (TB.take ZM i1 TT) Q hq
    intro q dq fJ Nd oq
    have hqj:q≠j:=fun h=>oq (by simp [h])
    obtain ⟨k1,k2⟩:=oc q dq fJ Nd (fun h=>oq (List.mem_cons_of_mem _ h))
    refine ⟨?_,k2⟩
    have br:(H q).length≠(H j).length:=by
     have grow:∀{a b:Nat} {da:cK},l[a]?=some da→gG da=true→a<b→b<mF→(H a).length<(H b).length:=by
      intro a b da ha ZC gB hb
      obtain ⟨a',nZ⟩:=wV.1 ZC
      obtain ⟨_,oo',_,_,g3,_⟩:=yl T ha nZ (lD _ _ ha ZC)
      obtain ⟨os,gE⟩:=ui L lD T (k:=a+1) (b-(a+1)) (by omega)
      rw [show a+1+(b-(a+1))=b by omega,g3] at gE
      rw [gE]
      simp
     rcases Nat.lt_or_gt_of_ne hqj with h | h
     ·have:=grow fJ Nd h (Co j d bN hf);omega
     ·have:=grow bN hf h (Co q dq fJ Nd);omega
    simp [br,k1]
  ·have lG:gH d.op.guard (F j)=false:=by simpa using hw
   rw [if_neg (by rw [BD,BC,lG];simp)]
   obtain ⟨n1,n2⟩:=cW lG
   have R':=R.rS q2 (Tr.refl R.heap) (aw.undef _) R.heap
   rw [n1] at iR
   rw [←iR] at R'
   have py:gG d=false:=by
    cases hf:gG d with
    | false=>rfl
    | true=>rw [lD j d bN hf] at lG;cases lG
   by_cases hE:d.op.op.c7=true
   ·obtain ⟨e0,e1,e2⟩:=Ct hE py
    have e3:H (j+1)=H m:=by rw [n2,e1]
    refine ⟨fun _ _=>trivial,ih rA ky (j::Sp) A2 (j+1) (by omega) (by omega) e2 S' B ρ _ w (by rw [e3];exact R') (by rw [e3];exact hlen) ?_ (by rw [e3];exact TB) Q hq⟩
    intro q dq fJ hf oq
    rw [e3]
    exact oc q dq fJ hf (fun h=>oq (List.mem_cons_of_mem _ h))
   ·exact ⟨fun _ _=>trivial,ih rA ky (j::Sp) A2 m Bk hm (zK (.inl (by simpa using hE))) S' B ρ _ w R' hlen (fun q dq fJ hf oq=>oc q dq fJ hf (fun h=>oq (List.mem_cons_of_mem _ h))) TB Q hq⟩

end
end Go.Sim


namespace Go.Sim

section
variable {P : Program} {N : Nat}

theorem aqq {op:Op} {a:kG} (h:gA P op=some (.fl a)):False:=by
 unfold gA at h
 split at h
 all_goals repeat' (split at h)
 all_goals first | (cases h;done) | (simp at h;done) | (simp only [Option.map_eq_some_iff] at h;obtain ⟨_,_,h⟩:=h;cases h;done)

theorem aqs {op:Op} {a:kG} (h:sv P op=some (.e (.fl a))):False:=by
 rcases L8 h with ⟨po,e,_⟩ | ⟨lo,e,_⟩ | ⟨eo,e,he⟩ | ⟨g,args,at_,_,_,e⟩ | ⟨x,args,at_,_,e⟩
 ·cases e
 ·cases e
 ·cases e;exact aqq he
 ·cases e
 ·cases e

theorem Yt:∀{l:List Nat},EY l=true→l.Nodup
 | [],_=>.nil
 | x::xs,h=>by
  simp only [EY,Bool.and_eq_true] at h
  rw [List.nodup_cons]
  exact ⟨by simpa using h.1,Yt h.2⟩

theorem aba {l:List cK} {fl:List Nat} {p0:List Nat}:∀{perm:List Nat},(∀i∈perm,i<l.length)→∀q:Nat,
  (perm.filterMap fun i=>(l[i]?).map fun o=>(⟨if fl.contains i then AT o.op else o.op,Gl o.pre p0 0⟩:cK))[q]?=(perm[q]?).bind fun i=>(l[i]?).map fun o=>⟨if fl.contains i then AT o.op else o.op,Gl o.pre p0 0⟩
 | [],_,q=>by simp
 | i::perm,h,q=>by
  have bf:i<l.length:=h i (by simp)
  have hi:l[i]?=some l[i]:=List.getElem?_eq_getElem bf
  rw [List.filterMap_cons,hi]
  simp only [Option.map_some]
  cases q with
  | zero=>simp [hi]
  | succ q=>
   rw [List.getElem?_cons_succ,List.getElem?_cons_succ]
   exact aba (fun i hi=>h i (by simp [hi])) q

theorem aqr {ops:Array Oper} {l:List cK} {perm:List Nat} (hc:ER P N ops=some (l,perm)):P.follows .mixedOrders=true∧vB ops.toList 0=true∧Laid P N ops l (fun q=>perm.getD q 0) (rC l)∧∀(q:Nat) (d:cK),l[q]?=some d→gG d=true→d.op.guard=none:=by
 unfold ER at hc
 split at hc
 ·rename_i ios Nn
  simp only at hc
  split at hc
  ·rename_i qo
   simp only [Option.some.injEq,Prod.mk.injEq] at hc
   obtain ⟨hl,hp⟩:=hc
   rw [hp] at hl qo
   rw [hl] at qo
   simp only [Bool.and_eq_true] at qo
   obtain ⟨⟨Bl,n9⟩,aB⟩:=qo
   obtain ⟨g1,g2⟩:=L7 Nn
   have kP:(iA (ops.toList.map eG) []).length=ops.size:=by rw [EH];simp
   have Nu:ios.length≤(iA (ops.toList.map eG) []).length:=by rw [EH];simp [g1]
   obtain ⟨z1,z2⟩:=RL Nu
   have hz:(mD ios (iA (ops.toList.map eG) [])).length=ops.size:=by rw [z1,g1];simp
   unfold okF at aB
   simp only [Bool.and_eq_true,beq_iff_eq] at aB
   obtain ⟨⟨⟨⟨⟨⟨⟨o1,o2⟩,o3⟩,o4⟩,o5⟩,o6⟩,o7⟩,o8⟩:=aB
   rw [kP] at o1 o2 o4 o7
   rw [List.all_eq_true] at o4 o5 o6 o7 o8
   have aC:∀i∈perm,i<ops.size:=fun i hi=>by simpa using o4 i hi
   have bN:∀q,q<ops.size→perm.getD q 0∈perm:=by
    intro q hq
    have:q<perm.length:=by omega
    rw [List.getD_eq_getElem?_getD,List.getElem?_eq_getElem this]
    exact List.getElem_mem this
   have ny:=Yt o3
   have inj:∀q k,q<ops.size→k<ops.size→perm.getD q 0=perm.getD k 0→q=k:=by
    intro q k hq hk he
    have fJ:q<perm.length:=by omega
    have bV:k<perm.length:=by omega
    rw [List.getD_eq_getElem?_getD,List.getD_eq_getElem?_getD,List.getElem?_eq_getElem fJ,List.getElem?_eq_getElem bV] at he
    simp only [Option.getD_some] at he
    have hp:=List.pairwise_iff_getElem.1 ny
    rcases Nat.lt_trichotomy q k with h | h | h
    ·exact absurd he (hp q k fJ bV h)
    ·exact h
    ·exact absurd he.symm (hp k q bV fJ h)
   have mem:∀{q d},l[q]?=some d→(d,q)∈l.zipIdx:=fun h=>List.mem_zipIdx_iff_getElem?.2 h
   refine ⟨Bl,n9,⟨o1,fun q hq=>aC _ (bN q hq),inj,?_,?_,?_,?_,?_,Nat.sub_le _ _,?_,?_⟩,?_⟩
   ·intro j hj
    have rE:j∈perm:=by
     apply Classical.byContradiction
     intro cW
     have pB:perm ⊆ (List.range ops.size).erase j:=by
      intro x hx
      have N4:x≠j:=by rintro rfl;exact cW hx
      rw [List.mem_erase_of_ne N4]
      exact List.mem_range.2 (aC x hx)
     have:=Gt ny pB
     rw [List.length_erase_of_mem (List.mem_range.2 hj),List.length_range] at this
     omega
    obtain ⟨q,hq,e⟩:=List.mem_iff_getElem.1 rE
    exact ⟨q,by omega,by rw [List.getD_eq_getElem?_getD,List.getElem?_eq_getElem hq,Option.getD_some,e]⟩
   ·intro q o d ho hd
    have oq:q<ops.size:=by rw [←o1];exact (List.getElem?_eq_some_iff.1 hd).1
    have fJ:q<perm.length:=by omega
    have qz:=aba (l:=mD ios (iA (ops.toList.map eG) [])) (fl:=MB (mD ios (iA (ops.toList.map eG) []))) (p0:=perm) (perm:=perm) (fun i hi=>by rw [hz];exact aC i hi) q
    have lE:=hl
    unfold aa9 at lE
    rw [lE,hd] at qz
    rw [List.getElem?_eq_getElem fJ] at qz
    simp only [Option.bind_some] at qz
    have FQ:perm.getD q 0=perm[q]:=by rw [List.getD_eq_getElem?_getD,List.getElem?_eq_getElem fJ];rfl
    rw [FQ] at ho
    cases N5:(mD ios (iA (ops.toList.map eG) []))[perm[q]]? with
    | none=>rw [N5] at qz;cases qz
    | some dz=>
     rw [N5] at qz
     simp only [Option.map_some,Option.some.injEq] at qz
     have hx:=(z2 _ _ N5).1
     have kM:=g2 _ o dz.op (by simpa using ho) hx
     obtain ⟨c1,c2,c3,c4,c5⟩:=AH kM
     have au9:∀a,dz.op.op≠ .e (.fl a):=by
      intro a e
      rw [e] at c3
      exact aqs c3
     refine ⟨dz.op,kM,?_⟩
     have plain:d.op=dz.op→dz.op.dst=d.op.dst∧dz.op.guard=d.op.guard∧tmpsOf dz.op.op.fZ=tmpsOf d.op.op.fZ∧((gG d=false∧dz.op.op=d.op.op)∨∃a,dz.op.op=.e a.Cv∧d.op.op=.e (.fl a)∧d.op.guard=none):=by
      intro e
      refine ⟨by rw [e],by rw [e],by rw [e],.inl ⟨?_,by rw [e]⟩⟩
      cases hf:gG d with
      | false=>rfl
      | true=>
       obtain ⟨a,ha⟩:=wV.1 hf
       rw [e] at ha
       exact absurd ha (au9 a)
     by_cases oc:(MB (mD ios (iA (ops.toList.map eG) []))).contains perm[q]=true
     ·rw [if_pos oc] at qz
      have rB:d.op=AT dz.op:=by rw [qz]
      unfold AT at rB
      split at rB
      ·rename_i eo he hg
       split at rB
       ·rename_i a ha
        refine ⟨by rw [rB],by rw [rB,hg],?_,.inr ⟨a,by rw [he,ah6 ha],by rw [rB],by rw [rB]⟩⟩
        rw [rB,he,←ah6 ha]
        cases a <;> rfl
       ·exact plain rB
      ·exact plain rB
     ·rw [if_neg oc] at qz
      exact plain (by rw [qz])
   ·intro q d hd k hk
    have h1:=o7 (d,q) (mem hd)
    rw [List.all_eq_true] at h1
    have:=h1 k (List.mem_range.2 hk)
    simpa using this
   ·intro j e he
    by_cases hj:j<ops.size
    ·have hg:ops.toList[j]?=some ops[j]:=by simp [hj]
     have:(ops.toList.map eG).getD j []=eG ops[j]:=by simp [List.getD,hj]
     rw [this] at he
     have:=Ds n9 j ops[j] hg e he
     omega
    ·have:(ops.toList.map eG).getD j []=[]:=by simp [List.getD,Nat.le_of_not_lt hj]
     rw [this] at he
     simp at he
   ·intro i j oi oj hi hj
    have h1:=o5 (oj,j) (mem hj)
    rw [List.all_eq_true] at h1
    exact h1 (oi,i) (mem hi)
   ·intro q d hd hq hE
    have h1:=o6 (d,q) (mem hd)
    simp only at h1
    rw [if_pos hq,hE] at h1
    simpa using h1
   ·intro q d hd hq
    have h1:=o6 (d,q) (mem hd)
    simp only at h1
    rw [if_neg (by omega)] at h1
    simpa using h1
   ·intro q d hd hf
    have h1:=o8 (d,q) (mem hd)
    simp only [hf,Bool.not_true,Bool.false_or,Option.isNone_iff_eq_none] at h1
    exact h1
  ·cases hc
 ·cases hc

theorem aty {out:Bool} {id:Nat} {ops:Array Oper} {l:List cK} {perm:List Nat} {K:(Nat→Value)→ae→Prop} {f:Nat→Value} {h:ae} (hc:ER P N ops=some (l,perm)) (hi:jL P l 0 [] [] K f h):
  ∃f' h',fL P N out (.region id ops true) f h .normal f' h'∧K f' h':=by
 obtain ⟨Bl,n9,L,lD⟩:=aqr hc
 obtain ⟨F,H,V,f1,f2,f3,T,_,_⟩:=Og hi
 simp only [Nat.zero_add] at f3
 refine ⟨F l.length,H l.length,?_,f3⟩
 intro S hS B ρ a w R
 refine wpIn_region_draw ?_
 intro t
 have NT:Region.schedule (P.follows .mixedOrders) ops t=Region.linearise .any ops t:=by
  unfold Region.schedule
  rw [Bl]
  simp
 rw [NT]
 have bS:=abd n9 t
 have Bn:∀(l:List cK) (i:Nat) (f:Nat→Value),dP V [] l i f=f:=by
  intro l
  induction l with
  | nil=>intro i f;rfl
  | cons a l ih=>intro i f;simp [dP,ih]
 obtain ⟨os,gE⟩:=ui L lD T (k:=0) (rC l) (by omega)
 rw [Nat.zero_add] at gE
 have R0:Rel P N B ρ f h a { w with drawn:=w.drawn+1 }:=R.mono (Tr.drew R.heap _) (R.heap.drew _)
 have Fo:H 0=h:=f2
 have TG:Tr ρ (H 0) w ρ (H (rC l)) { w with drawn:=w.drawn+1 }:=by
  rw [gE,Fo]
  exact (Tr.drew R.heap _).trans (Tr.Ff R0.heap os)
 have R1:Rel P N B ρ (dP V [] l 0 (F 0)) (H (rC l)) a { w with drawn:=w.drawn+1 }:=by
  rw [Bn,f1,gE,Fo]
  exact R0.mono (Tr.Ff R0.heap os) (R0.heap.Ff os)
 refine aqF L lD T bS (fun j e hj=>by simp at hj) (fun i hi=>by simp at hi) [] (fun q=>by simp) (rC l) (Nat.le_refl _) L.head (fun e oe he _ hf=>?_) S B ρ a _ R1 (Nat.le_refl _) ?_ TG _ ?_
 ·constructor
  ·intro h;simp at h
  ·intro aC
   -- an effect at ft head is a float
   rename_i hE
   rw [L.low e oe he aC hE] at hf
   cases hf
 ·intro q d hq hf _
  obtain ⟨a',nZ⟩:=wV.1 hf
  obtain ⟨_,oo,g1,g2,g3,_,g5,_⟩:=yl T hq nZ (lD q d hq hf)
  have hqm:q<rC l:=by
   apply Classical.byContradiction
   intro h'
   rw [L.high q d hq (by omega)] at hf
   cases hf
  constructor
  ·obtain ⟨os',Br⟩:=ui L lD T (k:=0) q (by omega)
   rw [Nat.zero_add,Fo] at Br
   cases hr:ρ (H q).length with
   | none=>rfl
   | some r=>
    have:=R.heap.lt hr
    rw [Br] at this
    simp at this
    omega
  ·obtain ⟨os',Br⟩:=ui L lD T (k:=q+1) (rC l-(q+1)) (by omega)
   rw [show q+1+(rC l-(q+1))=rC l by omega] at Br
   rw [Br]
   have gD:=La g1 (H q).length
   rw [←g2] at gD
   unfold dH
   rw [gD]
   simp only [Option.bind_some]
   rw [List.getElem?_append_left (by rw [g3];simp)]
 ·intro au a' w' R' T'
  refine ⟨rfl,au,R',?_⟩
  rw [Fo] at T'
  exact T'

theorem aaJ {out:Bool} {id:Nat} {ops:Array Oper} {l:List cK} {K:(Nat→Value)→ae→Prop} {f:Nat→Value} {h:ae} (hc:L5 P N ops=some l) (hi:jL P l 0 [] [] K f h):
  ∃f' h',fL P N out (.region id ops true) f h .normal f' h'∧K f' h':=by
 unfold L5 at hc
 split at hc
 ·rename_i l' hl
  simp at hc;subst hc
  exact atz hl hi
 ·rw [Option.map_eq_some_iff] at hc
  obtain ⟨⟨l',perm⟩,hl,rfl⟩:=hc
  exact aty hl hi

end
end Go.Sim


namespace Go.Sim

section
variable {P : Program} {N : Nat}

theorem Gw (f:Nat→Value) (ks ls:List Nat) (xs:List Value) (h:xs=ls.map f):qX (ji (ks++ls) (ks.map f++xs)) f:=by
 subst h
 rw [←List.map_append]
 exact BZ f (ks++ls)

theorem Ot {out:Bool}:∀{c:Code} {hs dw:Hints} {ic:dX},eD P N c hs=some (ic,dw)→(out=true∨gu c=true)→∀{K:Exit→(Nat→Value)→ae→Prop} {f:Nat→Value} {h:ae},gR P ic K f h→
  ∃e f' h',fL P N out c f h e f' h'∧K e f' h':=by
 intro c
 induction c with
 | skip=>
  intro hs dw ic hc ho K f h hi
  simp [eD] at hc
  obtain ⟨rfl,_⟩:=hc
  exact ⟨.normal,f,h,fun S hS B ρ a w R=>wpIn_skip ⟨rfl,ρ,R,Tr.refl R.heap⟩,hi⟩
 | region id ops draw=>
  intro hs dw ic hc ho K f h hi
  cases draw with
  | true=>
   simp only [eD] at hc
   split at hc
   ·rename_i l hl
    split at hc
    ·rename_i sN
     simp at hc
     obtain ⟨rfl,_⟩:=hc
     have fm:=Y0 (Yv sN) hi
     rw [EW] at fm
     obtain ⟨f',h',r1,r2⟩:=aaJ (id:=id) hl fm
     exact ⟨.normal,f',h',r1,r2⟩
    ·cases hc
   ·cases hc
  | false=>
   simp only [eD] at hc
   split at hc
   ·rename_i l hl
    split at hc
    ·rename_i sN
     simp only [Option.some.injEq] at hc
     have he:ic=(oJ (ru l) hs).1:=by rw [hc]
     subst he
     obtain ⟨f',h',r1,r2⟩:=ayV (i:=0) (os:=ops.toList) (ops:=ops) (fun k o hk=>by simpa using hk) (by rw [Fa];exact hl) (abb sN) hi
     refine ⟨.normal,f',h',fL.region ?_,r2⟩
     rw [List.range_eq_range']
     simpa using r1
    ·cases hc
   ·simp at hc
    obtain ⟨rfl,_⟩:=hc
    exact (show False from hi).elim
 | seq x y wR wT=>
  intro hs dw ic hc ho K f h hi
  have wA:out=true∨gu x=true:=ho.imp id fun h=>by simp only [gu,Bool.and_eq_true] at h;exact h.1
  have wB:out=true∨gu y=true:=ho.imp id fun h=>by simp only [gu,Bool.and_eq_true] at h;exact h.2
  have both:∀{a b:dX} {h0 ik iF:Hints} {ls:List Nat},eD P N x hs=some (a,h0)→eD P N y ik=some (b,iF)→gR P (.seq a (tU ls b)) K f h→∃e f' h',fL P N out (.seq x y) f h e f' h'∧K e f' h':=by
   intro a b h0 ik iF ls ha hb hi
   obtain ⟨e,cL,h₁,r1,r2⟩:=wR ha wA hi
   by_cases he:e=.normal
   ·subst he
    obtain ⟨MF,hw,r3⟩:=Yk r2
    obtain ⟨e',ar1,FY,s1,s2⟩:=wT hb wB r3
    exact ⟨e',ar1,FY,r1.seq (s1.weaken hw),s2⟩
   ·refine ⟨e,cL,h₁,r1.azJ he,?_⟩
    cases e <;> first | exact absurd rfl he | exact r2
  simp only [eD] at hc
  split at hc
  ·rename_i a h0 ik ha
   split at hc
   ·rename_i b iF hb
    simp at hc
    obtain ⟨rfl,_⟩:=hc
    exact both ha hb hi
   ·cases hc
  ·rename_i a ha
   split at hc
   ·rename_i b iF hb
    simp at hc
    obtain ⟨rfl,_⟩:=hc
    exact both (ls:=[]) ha hb hi
   ·cases hc
  ·cases hc
 | cond c x y wR wT=>
  intro hs dw ic hc ho K f h hi
  have wA:out=true∨gu x=true:=ho.imp id fun h=>by simp only [gu,Bool.and_eq_true] at h;exact h.1
  have wB:out=true∨gu y=true:=ho.imp id fun h=>by simp only [gu,Bool.and_eq_true] at h;exact h.2
  simp only [eD] at hc
  split at hc
  ·rename_i aB
   split at hc
   ·rename_i a ik ha
    split at hc
    ·rename_i b iF hb
     simp at hc
     obtain ⟨rfl,_⟩:=hc
     rw [aa0] at hi
     simp only [nj] at hi
     split at hi
     ·rename_i t ht
      cases t
      ·simp at hi
       obtain ⟨e,cL,h₁,r1,r2⟩:=wT hb wB hi
       exact ⟨e,cL,h₁,fL.cond aB ht (by simpa using r1),r2⟩
      ·simp at hi
       obtain ⟨e,cL,h₁,r1,r2⟩:=wR ha wA hi
       exact ⟨e,cL,h₁,fL.cond aB ht (by simpa using r1),r2⟩
     ·exact hi.elim
    ·cases hc
   ·cases hc
  ·cases hc
 | block id c ih=>
  intro hs dw ic hc ho K f h hi
  simp only [eD] at hc
  split at hc
  ·rename_i a ik ha
   simp at hc
   obtain ⟨rfl,_⟩:=hc
   obtain ⟨e,cL,h₁,r1,r2⟩:=ih ha (ho.imp (fun h=>h) fun h=>h) hi
   refine ⟨_,cL,h₁,r1.block,?_⟩
   cases e with
   | exit i=>
    simp only [bz] at r2⊢
    split <;> rename_i h
    ·rw [if_pos h] at r2;exact r2
    ·rw [if_neg h] at r2;exact r2
   | _=>exact r2
  ·cases hc
 | loop c ih=>
  intro hs dw ic hc ho K f h hi
  simp only [eD] at hc
  split at hc
  ·rename_i ks ls ik
   split at hc
   ·rename_i a iF ha
    simp at hc
    obtain ⟨rfl,_⟩:=hc
    obtain ⟨J,μ,h0,NO⟩:=hi
    have key:∀(n:Nat) (xs:List Value) (hh:ae),μ xs hh=n→J xs hh→∃e f' h',nQ P N out c (ji (ks++ls) (ks.map f++xs)) hh e f' h'∧K e f' h':=by
     intro n
     induction n using Nat.strongRecOn with
     | _ n qG=>
      intro xs hh hn hJ
      obtain ⟨e,cL,h₁,r1,r2⟩:=ih ha (ho.imp (fun h=>h) fun h=>h) (NO xs hh hJ)
      by_cases he:e=.normal
      ·subst he
       obtain ⟨hk,MW,aC⟩:=r2
       obtain ⟨e',f',h',s1,s2⟩:=qG (μ (ls.map cL) h₁) (by omega) (ls.map cL) h₁ rfl MW
       refine ⟨e',f',h',nQ.next r1 (s1.weaken ?_),s2⟩
       rw [←hk]
       exact Gw cL ks ls _ rfl
      ·refine ⟨e,cL,h₁,nQ.leave he r1,?_⟩
       cases e <;> first | exact absurd rfl he | exact r2
    obtain ⟨e,f',h',s1,s2⟩:=key _ (ls.map f) h rfl h0
    exact ⟨e,f',h',(s1.weaken (Gw f ks ls _ rfl)).run,s2⟩
   ·cases hc
  ·cases hc
 | exit id=>
  intro hs dw ic hc ho K f h hi
  simp [eD] at hc
  obtain ⟨rfl,_⟩:=hc
  exact ⟨.exit id,f,h,fun S hS B ρ a w R=>wpIn_exit ⟨rfl,ρ,R,Tr.refl R.heap⟩,hi⟩
 | ret=>
  intro hs dw ic hc ho K f h hi
  simp [eD] at hc
  obtain ⟨rfl,_⟩:=hc
  exact ⟨.ret,f,h,fun S hS B ρ a w R=>wpIn_ret ⟨rfl,ρ,R,Tr.refl R.heap⟩,hi⟩
 | rangeFunc g ps jc body=>
  intro hs dw ic hc ho K f h hi
  have ho:out=true:=ho.resolve_right (by simp [gu])
  subst ho
  simp only [eD] at hc
  split at hc
  ·rename_i ls ik
   split at hc
   ·rename_i hk
    simp at hc
    obtain ⟨rfl,_⟩:=hc
    simp only [Bool.and_eq_true] at hk
    obtain ⟨h',r1,r2⟩:=ahm hk.1 hi
    exact ⟨.normal,f,h',r1,r2⟩
   ·cases hc
  ·cases hc
 | _=>intro hs dw ic hc;simp [eD] at hc

end
end Go.Sim


namespace Go.Sim

section
variable {P : Program} {ρ : aF} {h : ae} {w : World}

def zD:List Tmp→List Value→(Nat→Value)→Nat→Value
 | p::ps,v::vs,f=>zD ps vs (uO f p v)
 | _,_,f=>f

theorem agf {N:Nat}:∀{ps:List Tmp} {args args':List Value} {f:Nat→Value} {tmps:Array Value},bn ρ args args'→(∀p∈ps,p<N)→tmps.size=N→(∀t,aw ρ (f t) (tmps.getD t Go.undef))→
  ((ps.zip args').foldl (fun (t:Array Value) (p,v)=>t.setIfInBounds p v) tmps).size=N∧
   ∀t,aw ρ (zD ps args f t) (((ps.zip args').foldl (fun (t:Array Value) (p,v)=>t.setIfInBounds p v) tmps).getD t Go.undef)
 | [],args,args',f,tmps,_,_,hs,hf=>⟨hs,hf⟩
 | p::ps,_,_,f,tmps,.nil,_,hs,hf=>⟨hs,hf⟩
 | p::ps,_,_,f,tmps,.cons (x:=x) (y:=y) ha hr,hp,hs,hf=>by
  simp only [List.zip_cons_cons,List.foldl_cons,zD]
  refine agf hr (fun q hq=>hp q (by simp [hq])) (by simpa using hs) ?_
  intro t
  simp only [qV]
  by_cases ht:t=p
  ·subst ht
   have:t<tmps.size:=by rw [hs];exact hp t (by simp)
   simp [Array.getD,this]
   exact ha
  ·rw [if_neg ht]
   have e:(tmps.setIfInBounds p y).getD t Go.undef=tmps.getD t Go.undef:=by
    simp only [Array.getD_eq_getD_getElem?,Array.getElem?_setIfInBounds]
    rw [if_neg (by omega)]
   rw [e]
   exact hf t

theorem marks.put {B:Nat} {l:Nat} {o:Obj}:∀{ds:List Deferred},(∀d∈ds,d≠mark l)→marks B ds w→marks B ds (w.putObj l o)
 | [],_,h=>by simpa [marks] using h
 | d::ds,br,⟨⟨D,h1,h2,h3,h4⟩,h5⟩=>by
  refine ⟨⟨D,h1,h2,?_,h4⟩,marks.put (fun d hd=>br d (by simp [hd])) h5⟩
  rw [xp]
  ·exact h3
  ·rintro rfl
   exact br d (by simp) h1

theorem marks.ne {B l:Nat} {rec:Loop} (hl:w.heap[l]?=some (.loop rec)):∀{ds:List Deferred},marks B ds w→∀d∈ds,d≠mark l
 | [],_,d,hd=>by simp at hd
 | d::ds,⟨⟨D,h1,h2,h3,h4⟩,h5⟩,d',hd=>by
  rcases List.mem_cons.1 hd with rfl | hd
  ·rintro e
   rw [h1] at e
   obtain rfl:=abq e
   rw [hl] at h3
   cases h3
  ·exact marks.ne hl h5 d' hd

theorem abL {au:aF} {h':ae} {w':World} (H':aT P au h' w') (T:Tr ρ h w au h' w') {l:Nat} {rec:Loop} (aC:l<w.heap.size) (hl:w'.heap[l]?=some (.loop rec))
  (no:∀j s,ρ j=some s→s.bj=l→¬cf h j):∀j s,au j=some s→s.bj=l→¬isLive h' j:=by
 intro j s hj hs hv
 obtain ⟨c,ls,vs,hc⟩:=H'.aaW hl hj hs hv
 cases hr:ρ j with
 | some s'=>
  have:=T.ext j s' hr
  rw [hj] at this
  cases this
  exact no j s hr hs (T.kinds j (T.iB j s hr) (.inr (.inr (.inl ⟨_,_,_,hc⟩))))
 | none=>
  obtain ⟨_,q⟩:=T.fresh j s hj hr
  rcases q with q | ⟨j',s',q1,q2,q3⟩
  ·omega
  ·exact no j' s' q1 (q2.trans hs) q3

theorem aT.Hy (H:aT P ρ h w) {i:Nat} {r:RI} {o:aq} {x:Obj} (hi:ρ i=some r) (no:∀j s,ρ j=some s→s.bj=r.bj→¬isLive h j) (ho:jO ρ (w.putObj r.bj x) r o):
  aT P ρ (h.set i o) (w.putObj r.bj x):=by
 have aC:=H.lt hi
 have ml:∀j,j≠i→cf (h.set i o) j→cf h j:=by
  intro j e hm
  unfold cf at hm⊢
  rw [List.getElem?_set_ne (Ne.symm e)] at hm
  exact hm
 have ll:∀j,j≠i→isLive (h.set i o) j→isLive h j:=by
  intro j e hm
  unfold isLive at hm⊢
  rw [List.getElem?_set_ne (Ne.symm e)] at hm
  exact hm
 refine ⟨?_,?_,H.aV⟩
 ·intro j s hj
  by_cases e:j=i
  ·subst e
   rw [hi] at hj
   cases hj
   exact ⟨o,by rw [List.getElem?_set_self aC],ho⟩
  ·obtain ⟨o',de,hr⟩:=H.obj j s hj
   refine ⟨o',by rw [List.getElem?_set_ne (Ne.symm e)];exact de,?_⟩
   by_cases hd:o'=.dead
   ·subst hd;trivial
   ·refine hr.mono (.refl _) (xp ?_)
    intro e'
    exact no j s hj e' ⟨o',de,hd⟩
 ·intro a b s t ha hb dM hm hl
  by_cases ea:a=i <;> by_cases eb:b=i
  ·omega
  ·subst ea
   rw [hi] at ha;cases ha
   exact absurd (ll b eb hl) (no b t hb dM.symm)
  ·subst eb
   rw [hi] at hb;cases hb
   exact absurd (ml a ea hm).live (no a s ha dM)
  ·exact H.inj a b s t ha hb dM (ml a ea hm) (ll b eb hl)

theorem Tr.Hy {au:aF} {h':ae} {w':World} {i:Nat} (hm:cf h i) (T:Tr ρ (h.set i .dead) w au h' w') (o:aq):Tr ρ h w au (h'.set i o) w':=by
 have ml:∀j,cf (h.set i .dead) j→cf h j:=by
  intro j hj
  by_cases e:j=i
  ·subst e;exact hm
  ·unfold cf at hj⊢
   rw [List.getElem?_set_ne (Ne.symm e)] at hj
   exact hj
 exact {
  ext:=T.ext
  len:=by simpa using T.len
  iB:=fun j s hj=>by simpa using T.iB j s hj
  kinds:=by
   intro j hj wo
   by_cases e:j=i
   ·subst e;exact hm
   ·refine ml j (T.kinds j (by simpa using hj) ?_)
    unfold cf at wo⊢
    rw [List.getElem?_set_ne (Ne.symm e)] at wo
    exact wo
  fresh:=by
   intro j s h1 h2
   obtain ⟨q1,q2⟩:=T.fresh j s h1 h2
   refine ⟨by simpa using q1,q2.imp (fun h=>h) ?_⟩
   rintro ⟨j',s',a,b,c⟩
   exact ⟨j',s',a,b,ml j' c⟩
  gI:=T.gI
  gf:=fun k hk cW=>T.gf k hk fun j s hj hs ZY=>cW j s hj hs (ml j ZY)
  os:=T.os
  tape:=T.tape
  output:=T.output }

theorem Tr.agm {i:Nat} {r:RI} (hd:∀j s,ρ j=some s→j<h.length) (hi:ρ i=some r) {h₁:ae} (hl:h₁.length=h.length) (hm:cf h₁ i) (x:Obj):Tr ρ h₁ w ρ h₁ (w.putObj r.bj x) where
 ext:=.refl _
 len:=Nat.le_refl _
 iB:=fun j s hj=>by rw [hl];exact hd j s hj
 kinds:=fun _ _ h=>h
 fresh:=fun j s h1 h2=>by rw [h1] at h2;cases h2
 gI:=by rw [World.putObj_size];exact Nat.le_refl _
 gf:=fun k hk cW=>xp fun e=>cW i r hi e.symm hm
 os:=rfl
 tape:=rfl
 output:=rfl

theorem azP {h:ae} {i:Nat} {o:aq} (hi:h[i]?=some o):h.set i o=h:=by
 apply List.ext_getElem?
 intro j
 by_cases e:j=i
 ·subst e
  rw [List.getElem?_set_self (List.getElem?_eq_some_iff.1 hi).1,hi]
 ·rw [List.getElem?_set_ne (Ne.symm e)]

theorem aA7 {i:Nat} {c:Ai} {ls:List Nat} {vs args:List Value} {ia ib:dX} {ik iF ata atb:Hints} {K:Value→ae→Prop} (hi:h[i]?=some (.loop c ls vs)) (hn:args.length=c.ps.size)
  (yK:c.ps.all (·<c.N)=true) (ha:eD P c.N c.jc ik=some (ia,ata)) (hb:eD P c.N c.body iF=some (ib,atb)) (na:gu c.jc=true) (nb:gu c.body=true)
  (hw:gR P ia (fun e f1 h1=>e=.normal∧h1[i]?=some .dead∧gR P ib (fun e _ h2=>e=.normal∧h2[i]?=some .dead∧K (.bool true) (h2.set i (.loop c ls vs))) f1 h1) (zD c.ps.toList args (ji ls vs)) (h.set i .dead)):
  BL P i args h K:=by
 obtain ⟨e1,f1,h1,r1,rfl,d1,nA⟩:=Ot (out:=false) ha (.inr na) hw
 obtain ⟨e2,f2,h2,r2,rfl,d2,hk⟩:=Ot (out:=false) hb (.inr nb) nA
 refine ⟨.bool true,h2.set i (.loop c ls vs),?_,hk⟩
 intro ρ r args' w hM qm H
 have ZX:cf h i:=.inr (.inr (.inl ⟨_,_,_,hi⟩))
 obtain ⟨o,ho,pz⟩:=H.obj i r hM
 rw [hi] at ho
 cases ho
 obtain ⟨rec,g1,g2,g3,g4,g5,g6,g7,g8⟩:=pz
 have aC:=(Array.getElem?_eq_some_iff.1 g1).1
 have jJ:args'.size=rec.params.size:=by
  have:=qm.length
  rw [g6,←hn,this]
  simp
 refine ⟨rec.fn,_,rec.assign,rec.body,run_yield g1 jJ,?_⟩
 rw [g4,g5]
 have Be:(rec.params.zip args').foldl (fun (t:Array Value) (p,v)=>t.setIfInBounds p v) rec.tmps=(c.ps.toList.zip args'.toList).foldl (fun (t:Array Value) (p,v)=>t.setIfInBounds p v) rec.tmps:=by
  rw [g6,←Array.toList_zip,Array.foldl_toList]
 obtain ⟨p1,p2⟩:=agf (N:=c.N) (ps:=c.ps.toList) (f:=ji ls vs) (tmps:=rec.tmps) qm (by
  intro p hp
  rw [Array.all_eq_true'] at yK
  exact of_decide_eq_true (yK p (by simpa using hp))) g7 g8
 have R0:Rel P c.N w.heap.size ρ (zD c.ps.toList args (ji ls vs)) (h.set i .dead) { tmps:=(rec.params.zip args').foldl (fun (t:Array Value) (p,v)=>t.setIfInBounds p v) rec.tmps,defers:=[] } w:=
  ⟨by rw [Be];exact p1,Nat.le_refl _,fun t=>by rw [Be];exact p2 t,H.kill i⟩
 refine roundIn_of_wpIn (F:=Fence.wide) trivial ?_
 refine wpIn_mono (r1 (some r.bj) (fun h=>by cases h) _ ρ _ w R0) ?_
 rintro e a1 w1 ⟨rfl,lP,R1,T1⟩
 have u1:∀j s,ρ j=some s→s.bj=r.bj→¬cf (h.set i .dead) j:=by
  intro j s hj hs hm
  by_cases e:j=i
  ·subst e
   unfold cf at hm
   rw [List.getElem?_set_self (H.lt hM)] at hm
   rcases hm with ⟨_,_,h1⟩ | ⟨_,h1⟩ | ⟨_,_,_,h1⟩ | ⟨_,_,h1⟩ | ⟨_,_,_,h1⟩ | ⟨_,_,_,_,h1⟩ <;> cases h1
  ·refine e (H.inj j i s r hj hM hs ?_ ZX.live)
   unfold cf at hm⊢
   rw [List.getElem?_set_ne (Ne.symm e)] at hm
   exact hm
 have l1:w1.heap[r.bj]?=some (.loop rec):=(T1.gf _ aC u1).trans g1
 have FJ:=(Array.getElem?_eq_some_iff.1 l1).1
 refine ⟨_,run_beginRound l1 g2,?_⟩
 have OY:=abL R1.heap T1 aC l1 u1
 have l2:(w1.putObj r.bj (.loop { rec with state:=.busy })).heap[r.bj]?=some (.loop { rec with state:=.busy }):=World.putObj_heap_same FJ
 have R2:Rel P c.N w.heap.size lP f1 h1 a1 (w1.putObj r.bj (.loop { rec with state:=.busy })):=
  ⟨R1.size,marks.put (marks.ne l1 R1.defers) R1.defers,R1.tmp,R1.heap.put OY _⟩
 refine wpIn_mono (r2 (some r.bj) (fun h=>by cases h) _ lP a1 _ R2) ?_
 rintro e a3 w3 ⟨rfl,RN,R3,T3⟩
 have l3:w3.heap[r.bj]?=some (.loop { rec with state:=.busy }):=(T3.gf _ (by simpa using FJ) fun j s hj hs hm=>OY j s hj hs hm.live).trans l2
 have no3:=abL R3.heap T3 (by simpa using FJ) l3 fun j s hj hs hm=>OY j s hj hs hm.live
 have as4:({ ({ rec with state:=.busy }:Loop) with state:=if (none:Option Code).isNone then .ready else .done,pending:=none }:Loop)=rec:=by
  cases rec
  simp only at g2 g3
  subst g2
  subst g3
  rfl
 have he:=run_endRound (P:=P) none l3
 rw [as4] at he
 have N7:lP i=some r:=T1.ext _ _ hM
 have N8:RN i=some r:=T3.ext _ _ N7
 have ZR:=(Array.getElem?_eq_some_iff.1 l3).1
 refine ⟨_,_,he,.bool true,RN,rfl,.bool _,?_,?_⟩
 ·refine R3.heap.Hy N8 no3 ⟨rec,World.putObj_heap_same ZR,g2,g3,g4,g5,g6,g7,fun t=>(g8 t).mono (T1.ext.trans T3.ext)⟩
 ·have m1:cf (h1.set i (.loop c ls vs)) i:=.inr (.inr (.inl ⟨c,ls,vs,List.getElem?_set_self (R1.heap.lt N7)⟩))
  have m3:cf (h2.set i (.loop c ls vs)) i:=.inr (.inr (.inl ⟨c,ls,vs,List.getElem?_set_self (R3.heap.lt N8)⟩))
  have A:=T1.Hy ZX (.loop c ls vs)
  have B:=Tr.agm (w:=w1) (fun j s hj=>R1.heap.lt hj) N7 (h₁:=h1.set i (.loop c ls vs)) (by simp) m1 (.loop { rec with state:=.busy })
  have e1:(h1.set i (.loop c ls vs)).set i .dead=h1:=by rw [List.set_set,azP d1]
  have C:Tr lP (h1.set i (.loop c ls vs)) _ RN (h2.set i (.loop c ls vs)) w3:=Tr.Hy m1 (by rw [e1];exact T3) _
  have D:=Tr.agm (w:=w3) (fun j s hj=>R3.heap.lt hj) N8 (h₁:=h2.set i (.loop c ls vs)) (by simp) m3 (.loop rec)
  exact ((A.trans B).trans C).trans D

end
end Go.Sim


namespace Go.Sim

inductive jo where
 | tmp (t:Nat)
 | cell (agg:Bool) (n:Nat) (a:Nat)

def uF (r:jo) (f:Nat→Value) (h:ae):Option Value:=
 match r with
 | .tmp t=>some (f t)
 | .cell agg n a=>af agg n h (f a)

def mT:List jo→(Nat→Value)→ae→Option (List Value)
 | [],_,_=>some []
 | r::rs,f,h=>match uF r f h,mT rs f h with
  | some v,some vs=>some (v::vs)
  | _,_=>none

def pack:List Value→Value
 | [v]=>v
 | vs=>.tuple vs.toArray

def tq:List jo→(Nat→Value)→ae→(List Value→Prop)→Prop
 | [],_,_,k=>k []
 | .tmp t::rs,f,h,k=>tq rs f h fun vs=>k (f t::vs)
 | .cell agg n a::rs,f,h,k=>eO (af agg n h (f a)) fun v=>tq rs f h fun vs=>k (v::vs)

def Hv (rs:List jo) (K:Value→ae→Prop) (f:Nat→Value) (h:ae):Prop:=tq rs f h fun vs=>K (pack vs) h

theorem Hw:∀{rs:List jo} {f:Nat→Value} {h:ae} {k:List Value→Prop},tq rs f h k→∃vs,mT rs f h=some vs∧k vs
 | [],f,h,k,hr=>⟨[],rfl,hr⟩
 | .tmp t::rs,f,h,k,hr=>by
  obtain ⟨vs,h1,h2⟩:=Hw (rs:=rs) hr
  exact ⟨f t::vs,by simp [mT,uF,h1],h2⟩
 | .cell agg n a::rs,f,h,k,hr=>by
  simp only [tq,eO] at hr
  split at hr
  ·rename_i v hv
   obtain ⟨vs,h1,h2⟩:=Hw (rs:=rs) hr
   exact ⟨v::vs,by simp [mT,uF,h1,hv],h2⟩
  ·exact hr.elim

def Lf (rs:List jo) (K:Value→ae→Prop):Exit→(Nat→Value)→ae→Prop
 | .normal,f,h=>Hv rs K f h
 | .ret,f,h=>Hv rs K f h
 | _,_,_=>False

def bp (args:List Value):Nat→Value:=fun j=>args.getD j undef

def ET (P:Program):ResultVar→Option jo
 | .tmp t=>some (.tmp t)
 | .cell a t=>
  match P.underlying t with
  | some d=>if gF P t&&(mj d||P.cellsOf t==1) then some (.cell (mj d) (P.cellsOf t) a) else none
  | none=>none

def yd (P:Program):List ResultVar→Option (List jo)
 | []=>some []
 | r::rs=>match ET P r,yd P rs with
  | some x,some xs=>some (x::xs)
  | _,_=>none

def bw (P:Program) (F:FuncId) (hs:Hints):Option (Nat×dX×List jo):=
 match P.funcs[F]? with
 | some fn=>match fn.body with
  | some c=>match eD P fn.ntmps c hs,yd P fn.results.toList with
   | some (ic,_),some rs=>some (fn.ntmps,ic,rs)
   | _,_=>none
  | none=>none
 | none=>none

def bE:Option (Nat×dX×List jo)→dX
 | some (_,c,_)=>c
 | none=>.skip
def dX.l:dX→dX
 | .seq a _=>a
 | .cut _ c=>c
 | .cond _ a _=>a
 | .block _ c=>c
 | .loop _ _ c=>c
 | c=>c
def dX.r:dX→dX
 | .seq _ b=>b
 | .cond _ _ b=>b
 | c=>c

section
variable {P : Program} {w : World} {ρ : aF} {h : ae}

def xt (tmps:Array Value):ResultVar→Sem Value
 | .tmp t=>pure (tmps.getD t Go.undef)
 | .cell b t=>do loadVar t (←asAddr (tmps.getD b Go.undef))

theorem ay2 (fn:Func) (tmps:Array Value):results fn tmps=(do let vs ←fn.results.mapM (xt tmps);pure (if h:vs.size=1 then vs[0] else .tuple vs)):=by
 have e:(fun r:ResultVar=>(match r with
   | .tmp t=>(pure (tmps.getD t Go.undef):Sem Value)
   | .cell a t=>do loadVar t (←asAddr (tmps.getD a Go.undef))))=xt tmps:=by
  funext r
  cases r <;> rfl
 rw [←e]
 rfl

theorem azI {N B:Nat} {f:Nat→Value} {a:Act} (R:Rel P N B ρ f h a w) {r:ResultVar} {x:jo} (hc:ET P r=some x) {v:Value} (hv:uF x f h=some v):
  ∃v',(xt a.tmps r).run P w=.ok v' w∧aw ρ v v':=by
 cases r with
 | tmp t=>
  simp [ET] at hc;subst hc
  simp [uF] at hv;subst hv
  exact ⟨_,rfl,R.tmp t⟩
 | cell b t=>
  simp only [ET] at hc
  split at hc
  ·rename_i d ht
   split at hc
   ·rename_i hk
    simp at hc;subst hc
    simp only [Bool.and_eq_true] at hk
    simp only [uF] at hv
    obtain ⟨v',q1,q2⟩:=ahw R.heap ht hk.1 hv (R.tmp b)
    refine ⟨v',?_,q2⟩
    have iS:=hv
    unfold af at iS
    split at iS
    ·rename_i i o hfb
     have:=R.tmp b
     rw [hfb] at this
     obtain ⟨r',_,e⟩:=this.Cj
     simp only [xt]
     rw [e] at q1⊢
     simpa [Instr.loadAt,Instr.sureAddr,asAddr] using q1
    ·cases iS
   ·cases hc
  ·cases hc

theorem ahC {α β:Type} (g:α→Sem β) (w:World):∀{xs:List α} {ys:List β},(∀(k:Nat) (x:α),xs[k]?=some x→∃y,ys[k]?=some y∧(g x).run P w=.ok y w)→xs.length=ys.length→(xs.mapM g).run P w=.ok ys w
 | [],[],_,_=>rfl
 | x::xs,y::ys,h,hl=>by
  obtain ⟨y',h1,h2⟩:=h 0 x rfl
  simp at h1;subst h1
  have ih:=ahC g w (xs:=xs) (ys:=ys) (fun k a hk=>by simpa using h (k+1) a (by simpa using hk)) (by simpa using hl)
  simp only [List.mapM_cons,Sem.run_bind,h2,Result.andThen_ok,ih,Sem.run_pure]

theorem ahE {N B:Nat} {f:Nat→Value} {a:Act} (R:Rel P N B ρ f h a w):∀{l:List ResultVar} {rs:List jo} {vs:List Value},yd P l=some rs→mT rs f h=some vs→
  ∃iI:List Value,bn ρ vs iI∧l.length=iI.length∧∀(k:Nat) (r:ResultVar),l[k]?=some r→∃y,iI[k]?=some y∧(xt a.tmps r).run P w=.ok y w
 | [],rs,vs,hc,hv=>by
  simp [yd] at hc;subst hc
  simp [mT] at hv;subst hv
  exact ⟨[],.nil,rfl,fun k r hk=>by simp at hk⟩
 | r::l,rs,vs,hc,hv=>by
  simp only [yd] at hc
  split at hc
  ·rename_i x xs h1 h2
   simp at hc;subst hc
   simp only [mT] at hv
   split at hv
   ·rename_i v vs h3 h4
    simp at hv;subst hv
    obtain ⟨v',q1,q2⟩:=azI R h1 h3
    obtain ⟨iI,s1,s2,s3⟩:=ahE R h2 h4
    refine ⟨v'::iI,.cons q2 s1,by simp [s2],?_⟩
    intro k r' hk
    cases k with
    | zero=>simp at hk;subst hk;exact ⟨v',rfl,q1⟩
    | succ k=>simpa using s3 k r' (by simpa using hk)
   ·cases hv
  ·cases hc

theorem ahF {N B:Nat} {f:Nat→Value} {a:Act} (R:Rel P N B ρ f h a w) {fn:Func} {rs:List jo} {vs:List Value} (hc:yd P fn.results.toList=some rs) (hv:mT rs f h=some vs):
  ∃v',(results fn a.tmps).run P w=.ok v' w∧aw ρ (pack vs) v':=by
 obtain ⟨iI,h1,h2,h3⟩:=ahE R hc hv
 have hm:=ahC (P:=P) (xt a.tmps) w h3 h2
 have fE:(fn.results.mapM (xt a.tmps)).run P w=.ok iI.toArray w:=by
  rw [Array.mapM_eq_mapM_toList]
  simp only [Sem.run_map,hm,Result.andThen_ok]
 refine ⟨if h:iI.toArray.size=1 then iI.toArray[0] else .tuple iI.toArray,?_,?_⟩
 ·rw [ay2]
  simp only [Sem.run_bind,fE,Result.andThen_ok,Sem.run_pure]
 ·cases h1 with
  | nil=>simpa [pack] using aw.pO (ρ:=ρ) .nil
  | cons a1 a2=>
   cases a2 with
   | nil=>simpa [pack] using a1
   | cons b1 b2=>simpa [pack] using aw.pO (.cons a1 (.cons b1 b2))

theorem YW {args:List Value} {args':Array Value} (hv:bn ρ args args'.toList) (N:Nat) (t:Nat):aw ρ (bp args t) ((args'++Array.replicate (N-args'.size) Go.undef).getD t Go.undef):=by
 unfold bp
 have hl:=hv.length
 by_cases ht:t<args.length
 ·obtain ⟨y,hy,hr⟩:=hv.get (k:=t) (x:=args[t]) (List.getElem?_eq_getElem ht)
  have hs:t<args'.size:=by simpa using (by omega:t<args'.toList.length)
  have e1:args.getD t undef=args[t]:=by simp [List.getD,ht]
  rw [e1,Array.getD_eq_getD_getElem?,Array.getElem?_append_left hs]
  simp only [Array.getElem?_toList] at hy
  rw [hy]
  exact hr
 ·have e1:args.getD t undef=undef:=by simp [List.getD,Nat.le_of_not_lt ht]
  have e2:(args'++Array.replicate (N-args'.size) Go.undef).getD t Go.undef=undef:=by
   have hs:¬t<args'.size:=by simp at hl;omega
   rw [Array.getD_eq_getD_getElem?,Array.getElem?_append_right (by omega)]
   by_cases h2:t-args'.size<N-args'.size
   ·simp [h2]
   ·simp [h2]
  rw [e1,e2]
  exact aw.undef _

theorem Tr.auJ {au:aF} {h':ae} {w':World} (T:Tr ρ h w au h' w') {l:Nat} (hl:w.heap.size≤l) (o:Obj):Tr ρ h w au h' (w'.putObj l o) where
 ext:=T.ext
 len:=T.len
 iB:=T.iB
 kinds:=T.kinds
 fresh:=T.fresh
 gI:=by rw [World.putObj_size];exact T.gI
 gf:=fun k hk cW=>by rw [xp (by omega)];exact T.gf k hk cW
 os:=T.os
 tape:=T.tape
 output:=T.output

theorem OC {au:aF} {h':ae} {fn:Func} {tmps:Array Value} {Q:Ending→World→Prop}:∀{ds:List Deferred} {w':World},marks w.heap.size ds w'→aT P au h' w'→Tr ρ h w au h' w'→
  (∀iW,aT P au h' iW→Tr ρ h w au h' iW→∃v,(results fn tmps).run P iW=.ok v iW∧Q (.returned v) iW)→LeavesInM Fence.wide 0 P fn tmps Q ds .returning w'
 | [],w',_,H,T,hq=>hq w' H T
 | d::ds,w',⟨⟨D,h1,h2,h3,h4⟩,h5⟩,H,T,hq=>by
  refine ⟨by simp,.inl ⟨D,_,by rw [h1];rfl,run_takeDeferred h3,?_⟩⟩
  exact OC (marks.put (fun d hd=>h4 d hd) h5) (H.put (fun j s hj hs=>H.O0 h3 hj hs) _) (T.auJ h2 _) hq

theorem aaH {F:FuncId} {N:Nat} {ic:dX} {rs:List jo} {hs:Hints} (hc:bw P F hs=some (N,ic,rs)) {args:List Value} (ha:args.length≤N) {K:Value→ae→Prop}
  (hi:gR P ic (Lf rs K) (bp args) h):pH P F args h K:=by
 unfold bw at hc
 split at hc
 ·rename_i fn hf
  split at hc
  ·rename_i c hb
   split at hc
   ·rename_i ic' _ Q1 h1 h2
    simp at hc
    obtain ⟨hN,rfl,rfl⟩:=hc
    obtain ⟨e,f',h',r1,r2⟩:=Ot (out:=true) h1 (.inl rfl) hi
    have qC:(e=.normal∨e=.ret)∧Hv Q1 K f' h':=by
     cases e <;> first | exact ⟨.inl rfl,r2⟩ | exact ⟨.inr rfl,r2⟩ | exact r2.elim
    obtain ⟨he,qC⟩:=qC
    obtain ⟨vs,NZ,qC⟩:=Hw qC
    ·refine ⟨pack vs,h',?_,qC⟩
     intro ρ args' w hv H
     refine callsIn_wide.1 (callsIn_of_wp_marks (F:=Fence.wide) (n:=0) hf hb trivial ?_ rfl)
     have jJ:args'.size=args.length:=by have:=hv.length;simpa using this.symm
     have R:Rel P fn.ntmps w.heap.size ρ (bp args) h { tmps:=args'++Array.replicate (fn.ntmps-args'.size) Go.undef,defers:=[] } w:=⟨by simp;omega,Nat.le_refl _,YW hv fn.ntmps,H⟩
     refine wpIn_mono (r1 none (fun _=>rfl) _ ρ _ w R) ?_
     rintro e' a' w' ⟨rfl,au,R',T⟩
     have key:LeavesInM Fence.wide 0 P fn a'.tmps (fun e w'=>∃v' au,e=.returned v'∧aw au (pack vs) v'∧aT P au h' w'∧Tr ρ h w au h' w') a'.defers .returning w':=by
      refine OC R'.defers R'.heap T ?_
      intro iW Ad rb
      have mG:Rel P fn.ntmps 0 au f' h' { a' with defers:=[] } iW:=⟨R'.size,Nat.zero_le _,R'.tmp,Ad⟩
      obtain ⟨v',q1,q2⟩:=ahF mG h2 NZ
      exact ⟨v',q1,v',au,rfl,q2,Ad,rb⟩
     rcases he with rfl | rfl
     ·exact key
     ·exact key
   ·cases hc
  ·cases hc
 ·cases hc

theorem atw {F:FuncId} {args:List Value} {h:ae} {v:Value} (hi:pH P F args h fun u _=>u=v) {ρ:aF} {args':Array Value} {w:World} (hv:bn ρ args args'.toList) (H:aT P ρ h w)
  (fR:∀i,¬cf h i):Calls P F args' w fun e w'=>(∃v' au,e=.returned v'∧aw au v v')∧RowKit.Below w.heap.size w w':=by
 obtain ⟨u,h',hc,rfl⟩:=hi
 refine (hc ρ args' w hv H).mono ?_
 rintro e w' ⟨v',au,rfl,h1,_,T⟩
 exact ⟨⟨v',au,rfl,h1⟩,⟨T.os,T.tape,T.output,T.gI,fun k hk=>T.gf k hk fun j s _ _ hm=>fR j hm⟩⟩

end
end Go.Sim


namespace Go.Sim

abbrev VK:=Value→ae→Prop
abbrev LQ:=List Value→ae→Prop
abbrev gm (a n:Nat):hC:=⟨some a,.p (.mv (.tmp n))⟩
abbrev gd (a n m:Nat):iZ:=⟨some a,.p (.mv (.tmp n)),m⟩
abbrev ci (n:Int):Operand:=.const (.int .i64 n)

inductive OP (o:Option Value) (K:Value→Prop):Prop | mk:eO o K→OP o K
inductive OH (o:Option (Value×ae)) (K:Value→ae→Prop):Prop | mk:lL o K→OH o K
inductive aM (c:Value) (a b:Prop):Prop | mk:nj c a b→aM c a b
inductive bZ (v:Value) (b:Bool) (A B:Prop):Prop | mk:jr v b A B→bZ v b A B
inductive av (Q:(Nat→Value)→ae→Prop) (ls:List Nat) (vs:List Value) (h:ae):Prop | mk:ye Q ls vs h→av Q ls vs h
inductive cG (init:List Value) (h:ae) (Q:(List Value→ae→Prop)→List Value→ae→Prop):Prop | mk:xa init h Q→cG init h Q
inductive ak (P:Program) (F:FuncId) (args:List Value) (h:ae) (K:Value→ae→Prop):Prop | mk:pH P F args h K→ak P F args h K
inductive uZ (P:Program) (x:Value) (args:List Value) (h:ae) (K:Value→ae→Prop):Prop | mk:rh P x args h K→uZ P x args h K

inductive xT (P:Program) (g:Value) (ls:List Nat) (vs:List Value) (c:Ai) (h:ae) (K:ae→Prop):Prop | mk:rU P g ls vs c h K→xT P g ls vs c h K

theorem Uo:xT=rU:=funext fun _=>funext fun _=>funext fun _=>funext fun _=>funext fun _=>funext fun _=>funext fun _=>propext ⟨fun ⟨h⟩=>h,.mk⟩
theorem xS:OP=eO:=funext fun _=>funext fun _=>propext ⟨fun ⟨h⟩=>h,.mk⟩
theorem Jz:OH=lL:=funext fun _=>funext fun _=>propext ⟨fun ⟨h⟩=>h,.mk⟩
theorem SB:aM=nj:=funext fun _=>funext fun _=>funext fun _=>propext ⟨fun ⟨h⟩=>h,.mk⟩
theorem IK:bZ=jr:=funext fun _=>funext fun _=>funext fun _=>funext fun _=>propext ⟨fun ⟨h⟩=>h,.mk⟩
theorem Ac:av=ye:=funext fun _=>funext fun _=>funext fun _=>funext fun _=>propext ⟨fun ⟨h⟩=>h,.mk⟩
theorem Um:cG=xa:=funext fun _=>funext fun _=>funext fun _=>propext ⟨fun ⟨h⟩=>h,.mk⟩
theorem sj:ak=pH:=funext fun _=>funext fun _=>funext fun _=>funext fun _=>funext fun _=>propext ⟨fun ⟨h⟩=>h,.mk⟩
theorem II:uZ=rh:=funext fun _=>funext fun _=>funext fun _=>funext fun _=>funext fun _=>propext ⟨fun ⟨h⟩=>h,.mk⟩

theorem ajz (Q:(Nat→Value)→ae→Prop) (ls:List Nat) (vs:List Value) (h:ae):av Q ls vs h=Q (ji ls vs) h:=by
 rw [Ac]
 rfl

theorem ax {Q:(Nat→Value)→ae→Prop} {ls:List Nat} {vs:List Value} {h:ae} {A:Prop} (e:Q (ji ls vs) h=A):av Q ls vs h=A:=(ajz _ _ _ _).trans e

def Ck (o:nS) (g:Operand→Value) (k:Value→Prop):Prop:=
 match o with
 | .mv x=>k (g x)
 | .Gg n=>k (.int .i64 n)
 | .fn f a b=>k (.func (.func f) (a.map g).toArray (b.map g).toArray)
 | o=>OP (il o g) k

theorem Qw (o:nS) (g:Operand→Value) (k:Value→Prop):Ck o g k=eO (il o g) k:=by
 unfold Ck
 split
 ·rfl
 ·rfl
 ·rfl
 ·rw [xS]

def HX (P:Program) (o:fU) (f:Nat→Value) (h:ae) (K:Value→ae→Prop):Prop:=
 match o with
 | .p o=>Ck o (ev f) fun v=>K v h
 | .l o=>OP (eK o (ev f) h) fun v=>K v h
 | .e o=>OH (fB o (ev f) h) K
 | .call g args=>ak P g (args.map (ev f)) h K
 | .jE x args=>uZ P (ev f x) (args.map (ev f)) h K

theorem az6 (P:Program) (o:fU) (f:Nat→Value) (h:ae) (K:Value→ae→Prop):HX P o f h K=cQ P o f h K:=by
 cases o <;> simp only [HX,cQ,Qw,xS,Jz,sj,II]

def AZ (P:Program) (l:List hC) (K:(Nat→Value)→ae→Prop):(Nat→Value)→ae→Prop:=
 List.rec (motive:=fun _=>(Nat→Value)→ae→Prop) (fun f h=>K f h) (fun o _ ih f h=>HX P o.op f h fun v h'=>ih (db f o.dst v) h') l

theorem Y7 (P:Program) (l:List hC) (K:(Nat→Value)→ae→Prop):∀(f:Nat→Value) (h:ae),AZ P l K f h=ue P l K f h:=by
 induction l with
 | nil=>intro f h;rfl
 | cons o os ih=>
  intro f h
  show HX P o.op f h (fun v h'=>AZ P os K (db f o.dst v) h')=_
  rw [az6,ue]
  congr 1
  funext v h'
  exact ih _ _

def Pa (P:Program) (g:Option (Nat×Bool)) (l:List hC) (K:(Nat→Value)→ae→Prop) (f:Nat→Value) (h:ae):Prop:=
 match g with
 | none=>AZ P l K f h
 | some (s,b)=>bZ (f s) b (AZ P l K f h) (K (zO l f) h)

theorem avn (P:Program) (g:Option (Nat×Bool)) (l:List hC) (K:(Nat→Value)→ae→Prop) (f:Nat→Value) (h:ae):Pa P g l K f h=qO P g l K f h:=by
 unfold Pa qO
 split <;> simp only [Y7,IK]

abbrev Sz:=List (Nat×ae)→dU→Value→ae→Prop

def E0 (P:Program) (io:fU) (pre j:Nat) (aL:List (Nat×ae)) (aH:dU) (f:Nat→Value) (h:ae) (next:Sz):Prop:=
 match io with
 | .p po=>Ck po (ev f) fun v=>next aL aH v h
 | .l lo=>OP (eK lo (ev f) h) fun v=>tS pre lo f v aL∧next aL (aH++[(j,lo,f,v)]) v h
 | .e (.fl a)=>OH (fB (.fl a) (ev f) h) fun v h'=>OP (dH h' v) fun u=>jS pre h' aH∧next (aL++[(j,h)]) (aH++[(j,.obj (.const v),f,u)]) v h'
 | .e eo=>OH (fB eo (ev f) h) fun v h'=>jS pre h' aH∧next (aL++[(j,h)]) aH v h'
 | .call g args=>ak P g (args.map (ev f)) h fun v h'=>jS pre h' aH∧next (aL++[(j,h)]) aH v h'
 | .jE x args=>uZ P (ev f x) (args.map (ev f)) h fun v h'=>jS pre h' aH∧next (aL++[(j,h)]) aH v h'

theorem aqG (P:Program) (io:fU) (pre j:Nat) (aL:List (Nat×ae)) (aH:dU) (f:Nat→Value) (h:ae) (next:Sz):
  E0 P io pre j aL aH f h next=jF P io pre j aL aH f h next:=by
 cases io with
 | e eo=>cases eo <;> simp only [E0,jF,xS,Jz]
 | _=>simp only [E0,jF,Qw,xS,sj,II]

abbrev Sy:=List (Nat×ae)→dU→(Nat→Value)→ae→Prop

def AX (P:Program):List iZ→Nat→List (Nat×ae)→dU→Sy→(Nat→Value)→ae→Prop
 | [],_,aL,aH,K,f,h=>K aL aH f h
 | o::os,j,aL,aH,K,f,h=>E0 P o.op o.pre j aL aH f h fun aL aH v h'=>AX P os (j+1) aL aH K (db f o.dst v) h'

theorem MJ (P:Program):∀(l:List iZ) (j:Nat) (aL:List (Nat×ae)) (aH:dU) (K:Sy) (f:Nat→Value) (h:ae),AX P l j aL aH K f h=mM P l j aL aH K f h
 | [],_,_,_,_,_,_=>rfl
 | o::os,j,aL,aH,K,f,h=>by
  rw [AX,mM,aqG]
  congr 1
  funext aL aH v h'
  exact MJ P os _ _ _ _ _ _

def rr (P:Program):List (Option (Nat×Bool)×List iZ)→Nat→List (Nat×ae)→dU→((Nat→Value)→ae→Prop)→(Nat→Value)→ae→Prop
 | [],_,_,_,K,f,h=>K f h
 | (none,l)::gs,j,aL,aH,K,f,h=>AX P l j aL aH (fun aL aH f h=>rr P gs (j+l.length) aL aH K f h) f h
 | (some (s,b),l)::gs,j,aL,aH,K,f,h=>
  bZ (f s) b (AX P l j aL aH (fun aL aH f h=>rr P gs (j+l.length) aL aH K f h) f h)
   (sE l j aL aH (fun aL aH f h=>rr P gs (j+l.length) aL aH K f h) f h)

theorem Fh (P:Program):∀(gs:List (Option (Nat×Bool)×List iZ)) (j:Nat) (aL:List (Nat×ae)) (aH:dU) (K:(Nat→Value)→ae→Prop) (f:Nat→Value) (h:ae),
  rr P gs j aL aH K f h=ma P gs j aL aH K f h
 | [],_,_,_,_,_,_=>rfl
 | (none,l)::gs,j,aL,aH,K,f,h=>by
  have e:(fun aL aH f h=>rr P gs (j+l.length) aL aH K f h)=fun aL aH f h=>ma P gs (j+l.length) aL aH K f h:=by
   funext a b c d;exact Fh P gs _ _ _ _ _ _
  rw [rr,ma,MJ,e]
 | (some (s,b),l)::gs,j,aL,aH,K,f,h=>by
  have e:(fun aL aH f h=>rr P gs (j+l.length) aL aH K f h)=fun aL aH f h=>ma P gs (j+l.length) aL aH K f h:=by
   funext a b c d;exact Fh P gs _ _ _ _ _ _
  rw [rr,ma,MJ,e,IK]

noncomputable def aj (P:Program) (c:dX):ar→(Nat→Value)→ae→Prop:=
 dX.rec (motive:=fun _=>ar→(Nat→Value)→ae→Prop)
  (fun K f h=>K .normal f h)
  (fun l K f h=>rr P l 0 [] [] (K .normal) f h)
  (fun g l K f h=>Pa P g l (K .normal) f h)
  (fun _ _ ia ib K f h=>ia (aD (ib K) K) f h)
  (fun ls _ ic K f h=>av (ic K) ls (ls.map f) h)
  (fun c _ _ ia ib K f h=>aM (ev f c) (ia K f h) (ib K f h))
  (fun id _ ic K f h=>ic (bz id K) f h)
  (fun ks ls _ ic K f h=>cG (ls.map f) h fun L xs hx=>av (ic (aD (fun f' aS=>ks.map f'=ks.map f∧L (ls.map f') aS) K)) (ks++ls) (ks.map f++xs) hx)
  (fun id K f h=>K (.exit id) f h)
  (fun K f h=>K .ret f h)
  (fun g ls c K f h=>xT P (ev f g) ls (ls.map f) c h (K .normal f)) c

theorem atU (P:Program) (c:dX):aj P c=gR P c:=by
 induction c with
 | skip=>rfl
 | EZ l=>funext K f h;exact Fh P l 0 [] [] (K .normal) f h
 | ops g l=>funext K f h;exact avn P g l (K .normal) f h
 | seq a b pI qF=>
  funext K f h
  show aj P a (aD (aj P b K) K) f h=gR P a (aD (gR P b K) K) f h
  rw [pI,qF]
 | cut ls c ih=>
  funext K f h
  show av (aj P c K) ls (ls.map f) h=ye (gR P c K) ls (ls.map f) h
  rw [ih,Ac]
 | cond c a b pI qF=>
  funext K f h
  show aM (ev f c) (aj P a K f h) (aj P b K f h)=nj (ev f c) (gR P a K f h) (gR P b K f h)
  rw [pI,qF,SB]
 | block id c ih=>
  funext K f h
  show aj P c (bz id K) f h=gR P c (bz id K) f h
  rw [ih]
 | loop ks ls c ih=>
  funext K f h
  show cG (ls.map f) h (fun L xs hx=>av (aj P c (aD (fun f' aS=>ks.map f'=ks.map f∧L (ls.map f') aS) K)) (ks++ls) (ks.map f++xs) hx)=
   xa (ls.map f) h (fun L xs hx=>gR P c (aD (fun f' aS=>ks.map f'=ks.map f∧L (ls.map f') aS) K) (ji (ks++ls) (ks.map f++xs)) hx)
  rw [ih,Um,Ac]
  rfl
 | exit id=>rfl
 | ret=>rfl
 | range g ls c=>
  funext K f h
  show xT P (ev f g) ls (ls.map f) c h (K .normal f)=rU P (ev f g) ls (ls.map f) c h (K .normal f)
  rw [Uo]

def zF:List jo→(Nat→Value)→ae→(List Value→Prop)→Prop
 | [],_,_,k=>k []
 | .tmp t::rs,f,h,k=>zF rs f h fun vs=>k (f t::vs)
 | .cell agg n a::rs,f,h,k=>OP (af agg n h (f a)) fun v=>zF rs f h fun vs=>k (v::vs)

theorem QY:∀(rs:List jo) (f:Nat→Value) (h:ae) (k:List Value→Prop),zF rs f h k=tq rs f h k
 | [],_,_,_=>rfl
 | .tmp _::rs,f,h,k=>QY rs f h _
 | .cell agg n a::rs,f,h,k=>by
  rw [zF,tq,xS]
  congr 1
  funext v
  exact QY rs f h _

def aR (rs:List jo) (K:Value→ae→Prop):ar
 | .normal,f,h=>zF rs f h fun vs=>K (pack vs) h
 | .ret,f,h=>zF rs f h fun vs=>K (pack vs) h
 | _,_,_=>False

theorem UN (rs:List jo) (K:Value→ae→Prop):aR rs K=Lf rs K:=by
 funext e f h
 cases e <;> first | rfl | exact QY rs f h _

theorem bF {P:Program} {F:FuncId} {N:Nat} {ic:dX} {rs:List jo} {hs:Hints} {h:ae} (hc:bw P F hs=some (N,ic,rs)) {args:List Value} (ha:args.length≤N)
  {K:Value→ae→Prop} (hi:aj P ic (aR rs K) (bp args) h):ak P F args h K:=
 .mk (aaH hc ha (by rw [←atU,←UN];exact hi))

end Go.Sim


namespace Go.Sim

section aAD
variable {A B : Prop} {K : Value → Prop} {K2 : Value → ae → Prop} {v : Value} {h : ae}

@[simp] theorem ah : OP (some v) K ↔ K v := ⟨fun ⟨h⟩ => h, fun h => .mk h⟩
@[simp] theorem aE : OH (some (v, h)) K2 ↔ K2 v h := ⟨fun ⟨h⟩ => h, fun h => .mk h⟩
theorem Di {o:Option (Value×ae)} (ho:o=some (v,h)) (hk:K2 v h):OH o K2:=by rw [ho];exact aE.2 hk
@[simp] theorem di : aM (.bool true) A B ↔ A := ⟨fun ⟨h⟩ => by simpa [nj] using h, fun h => .mk (by simpa [nj] using h)⟩
@[simp] theorem dp : aM (.bool false) A B ↔ B := ⟨fun ⟨h⟩ => by simpa [nj] using h, fun h => .mk (by simpa [nj] using h)⟩
theorem xH {b:Bool} (h1:b=true→A) (h2:b=false→B):aM (.bool b) A B:=by cases b <;> simp [h1,h2]
@[simp] theorem bK {p : Prop} [Decidable p] : aM (.bool (decide p)) A B ↔ (p → A) ∧ (¬ p → B) := by by_cases hp : p <;> simp [hp]
@[simp] theorem CQ {p : Prop} [Decidable p] : aM (.bool (!decide p)) A B ↔ (¬ p → A) ∧ (p → B) := by by_cases hp : p <;> simp [hp]
@[simp] theorem fy : bZ (.bool true) true A B ↔ A := ⟨fun ⟨h⟩ => by simpa [jr] using h, fun h => .mk (by simpa [jr] using h)⟩
@[simp] theorem eZ : bZ (.bool true) false A B ↔ B := ⟨fun ⟨h⟩ => by simpa [jr] using h, fun h => .mk (by simpa [jr] using h)⟩
@[simp] theorem iz : bZ (.bool false) true A B ↔ B := ⟨fun ⟨h⟩ => by simpa [jr] using h, fun h => .mk (by simpa [jr] using h)⟩
@[simp] theorem dO : bZ (.bool false) false A B ↔ A := ⟨fun ⟨h⟩ => by simpa [jr] using h, fun h => .mk (by simpa [jr] using h)⟩
@[simp] theorem u7 {b : Bool} : bZ undef b A B ↔ B := ⟨fun ⟨h⟩ => by simpa [jr, undef] using h, fun h => .mk (by simpa [jr, undef] using h)⟩
@[simp] theorem dA (a b : Value) : bL (.bool true) a b = some a := rfl
@[simp] theorem cY (a b : Value) : bL (.bool false) a b = some b := rfl

theorem ak.mono {P:Program} {F:FuncId} {args:List Value} {K K':Value→ae→Prop} (hc:ak P F args h K) (hk:∀v h',K v h'→K' v h'):ak P F args h K':=by
 rw [sj] at hc⊢
 exact hc.mono hk

end aAD

abbrev I (n:Int):Value:=.int .i64 n
abbrev B (b:Bool):Value:=.bool b
abbrev cv (c:UInt8):Value:=.int .u8 (c.toNat:Int)
abbrev pt (i o:Nat):Value:=.pointer (some ⟨i,o,none⟩)

theorem wrap64 {n:Int} (h1: -9223372036854775808≤n) (h2:n<9223372036854775808):IntKind.wrap .i64 n=n:=by
 have e:IntKind.wrap .i64 n=if n%18446744073709551616≥9223372036854775808 then n%18446744073709551616-18446744073709551616 else n%18446744073709551616:=by
  simp [IntKind.wrap,IntKind.bits,IntKind.signed]
 rw [e]
 split <;> omega

theorem aAC {n:Int} (h1:0≤n) (h2:n<256):IntKind.wrap .u8 n=n:=by
 have e:IntKind.wrap .u8 n=n%256:=by
  simp [IntKind.wrap,IntKind.bits,IntKind.signed]
 rw [e]
 omega

section ints
variable (k : IntKind) (a b : Int)
@[simp] theorem cI : ai .lss (.int k a) (.int k b) = some (.bool (decide (a < b))) := by simp [ai, gn]
@[simp] theorem rf : ai .leq (.int k a) (.int k b) = some (.bool (decide (a ≤ b))) := by simp [ai, gn]
@[simp] theorem fe : ai .gtr (.int k a) (.int k b) = some (.bool (decide (b < a))) := by simp [ai, gn]
@[simp] theorem kl : ai .geq (.int k a) (.int k b) = some (.bool (decide (b ≤ a))) := by simp [ai, gn]
@[simp] theorem fX : ai .eql (.int k a) (.int k b) = some (.bool (decide (a = b))) := by simp [ai, gn]
@[simp] theorem ng : ai .neq (.int k a) (.int k b) = some (.bool (!decide (a = b))) := by simp [ai, gn]
@[simp] theorem cD : ai .add (.int k a) (.int k b) = some (.int k (k.wrap (a + b))) := by simp [ai, gn]
@[simp] theorem fz : ai .sub (.int k a) (.int k b) = some (.int k (k.wrap (a - b))) := by simp [ai, gn]
@[simp] theorem tR : ai .mul (.int k a) (.int k b) = some (.int k (k.wrap (a * b))) := by simp [ai, gn]
@[simp] theorem nO (b : Bool) : fA .not (.bool b) = some (.bool !b) := rfl
@[simp] theorem aBP : fA .neg (.int k a) = some (.int k (k.wrap (0 - a))) := rfl
@[simp] theorem jU (k' : IntKind) : df k' (.int k a) = some (.int k' (k'.wrap a)) := rfl
@[simp] theorem AM (n x y : Bool) : rI n (.bool x) (.bool y) = some (.bool (if n then !(x == y) else x == y)) := rfl
@[simp] theorem eJ (i : Nat) (vs : Array Value) : cC i (.tuple vs) = vs[i]? := rfl
end ints

section strings
variable (a b : List UInt8)
@[simp] theorem amL (l : List UInt8) : bytes ⟨l.toArray⟩ = l := amM l
@[simp] theorem kC : fS (S a) = some (I a.length) := by simp [fS, S]
@[simp] theorem Ld : ai .eql (S a) (S b) = some (.bool (decide (a = b))) := by simp [ai, yU, S]
@[simp] theorem amG : ai .neq (S a) (S b) = some (.bool (!decide (a = b))) := by simp [ai, yU, S]
theorem tb {i:Nat} (h:i<a.length) (k:IntKind):iT (S a) (.int k (i:Int))=some (cv a[i]):=by simp [iT,S,h]
theorem HN {n:Nat} (h:n≤a.length) (k:IntKind):jK (S a) none (some (.int k (n:Int)))=some (S (a.take n)):=by simp [jK,S,pG,qL,h]
theorem Cq {n:Nat} (h:n≤a.length) (k:IntKind):jK (S a) (some (.int k (n:Int))) none=some (S (a.drop n)):=by simp [jK,S,pG,qL,h]
end strings


theorem auU {σ:Type} {init:List Value} {h:ae} {Q:(List Value→ae→Prop)→List Value→ae→Prop} (enc:σ→List Value) (hp:σ→ae) (J:σ→Prop) (μ:σ→Nat) (s0:σ)
  (e0:enc s0=init) (eh:hp s0=h) (j0:J s0) (hr:∀s,J s→Q (fun ys hy=>∃s',enc s'=ys∧hp s'=hy∧J s'∧μ s'<μ s) (enc s) (hp s)):cG init h Q:=by
 refine .mk ?_
 have least:∀ys hy,(∃s,enc s=ys∧hp s=hy∧J s)→∃m,(∃s,enc s=ys∧hp s=hy∧J s∧μ s=m)∧∀s,enc s=ys→hp s=hy→J s→m≤μ s:=by
  rintro ys hy ⟨s,h1,h2,h3⟩
  have key:∀n,(∃s,enc s=ys∧hp s=hy∧J s∧μ s=n)→∃m,(∃s,enc s=ys∧hp s=hy∧J s∧μ s=m)∧∀s,enc s=ys→hp s=hy→J s→m≤μ s:=by
   intro n
   induction n using Nat.strongRecOn with
   | _ n ih=>
    intro hn
    by_cases aC:∃s,enc s=ys∧hp s=hy∧J s∧μ s<n
    ·obtain ⟨s',a,b,c,d⟩:=aC
     exact ih (μ s') d ⟨s',a,b,c,rfl⟩
    ·exact ⟨n,hn,fun s' a b c=>Nat.le_of_not_lt fun d=>aC ⟨s',a,b,c,d⟩⟩
  exact key _ ⟨s,h1,h2,h3,rfl⟩
 classical
 refine ⟨fun ys hy=>∃s,enc s=ys∧hp s=hy∧J s,fun ys hy=>if hJ:∃s,enc s=ys∧hp s=hy∧J s then Classical.choose (least ys hy hJ) else 0,⟨s0,e0,eh,j0⟩,?_⟩
 rintro xs hx hJ
 have Bt:=Classical.choose_spec (least xs hx hJ)
 simp only [dif_pos hJ]
 generalize Classical.choose (least xs hx hJ)=m at Bt
 obtain ⟨⟨s,a,b,c,d⟩,_⟩:=Bt
 have:=hr s c
 rw [a,b] at this
 have he:(fun (ys:List Value) (hy:ae)=>(∃s,enc s=ys∧hp s=hy∧J s)∧(if hJ:∃s,enc s=ys∧hp s=hy∧J s then Classical.choose (least ys hy hJ) else 0)<m)=
   fun ys hy=>∃s',enc s'=ys∧hp s'=hy∧J s'∧μ s'<μ s:=by
  funext ys hy
  apply propext
  constructor
  ·rintro ⟨yu,aC⟩
   rw [dif_pos yu] at aC
   obtain ⟨⟨s',a',b',c',d'⟩,_⟩:=Classical.choose_spec (least ys hy yu)
   exact ⟨s',a',b',c',by rw [d',d];exact aC⟩
  ·rintro ⟨s',a',b',c',d'⟩
   refine ⟨⟨s',a',b',c'⟩,?_⟩
   rw [dif_pos ⟨s',a',b',c'⟩]
   have:=(Classical.choose_spec (least ys hy ⟨s',a',b',c'⟩)).2 s' a' b' c'
   omega
 rw [he]
 exact this

theorem dc {σ:Type} {init:List Value} {h:ae} {Q:(List Value→ae→Prop)→List Value→ae→Prop} (enc:σ→List Value) (hp:σ→ae) (J:σ→Prop) (μ:σ→Nat) (s0:σ)
  (e0:enc s0=init) (eh:hp s0=h) (j0:J s0) (hr:∀s,J s→∀L:List Value→ae→Prop,(∀s',J s'→μ s'<μ s→L (enc s') (hp s'))→Q L (enc s) (hp s)):cG init h Q:=
 auU enc hp J μ s0 e0 eh j0 fun s hs=>hr s hs _ fun s' h1 h2=>⟨s',rfl,rfl,h1,h2⟩


def EX (h h':ae):Prop:=h.length≤h'.length∧∀i,i<h.length→h'[i]?=h[i]?

theorem EX.refl (h:ae):EX h h:=⟨Nat.le_refl _,fun _ _=>rfl⟩
theorem EX.trans {a b c:ae} (h:EX a b) (k:EX b c):EX a c:=⟨Nat.le_trans h.1 k.1,fun i hi=>(k.2 i (Nat.lt_of_lt_of_le hi h.1)).trans (h.2 i hi)⟩
theorem EX.append (h g:ae):EX h (h++g):=⟨by simp,fun i hi=>List.getElem?_append_left hi⟩
theorem EX.push {a h:ae} (k:EX a h) (g:ae):EX a (h++g):=k.trans (.append h g)
theorem EX.set {a h:ae} (k:EX a h) {i:Nat} (hi:a.length≤i) (o:aq):EX a (h.set i o):=⟨by simpa using k.1,fun j hj=>by rw [List.getElem?_set_ne (by omega)];exact k.2 j hj⟩
theorem EX.get {a h:ae} (k:EX a h) {i:Nat} {o:aq} (hi:a[i]?=some o):h[i]?=some o:=by rw [k.2 i (List.getElem?_eq_some_iff.1 hi).1];exact hi
theorem EX.cells {a h:ae} (k:EX a h) {i:Nat} {xs:List Value} (hi:aO a i=some xs):aO h i=some xs:=by
 unfold aO at hi⊢
 have aC:i<a.length:=by
  apply Classical.byContradiction
  intro hc
  rw [List.getElem?_eq_none (Nat.le_of_not_lt hc)] at hi
  simp at hi
 rw [k.2 i aC]
 exact hi

def ee:Value→Bool
 | .bool _ | .int .. | .string _ | .nilFunc | .nilIface=>true
 | .pointer none | .map none=>true
 | .slice none 0 0=>true
 | _=>false

theorem ee.rel {ρ au:aF} {v v':Value} (h:ee v=true) (hv:aw ρ v v'):aw au v v':=by
 unfold ee at h
 split at h
 ·cases hv;exact .bool _
 ·cases hv;exact .int _ _
 ·cases hv;exact .string _
 ·cases hv;exact .nilFunc
 ·cases hv;exact .nilIface
 ·cases hv;exact .rP
 ·cases hv;exact .rO
 ·cases hv;exact .nG
 ·cases h

def mH (V:Nat→Value):Prop:=∀(ρ au:aF) (i j:Nat) (v':Value),au j=ρ i→aw ρ (V i) v'→aw au (V j) v'

theorem mH.ee {v:Value} (h:ee v=true):mH fun _=>v:=fun _ _ _ _ _ _ hv=>ee.rel h hv
theorem mH.pt (o:Nat):mH fun i=>pt i o:=by
 intro ρ au i j v' e hv
 cases hv with
 | ptr hr=>exact .ptr (by rw [e];exact hr)
theorem mH.sl (e:TypeId) (o n:Nat):mH fun i=>sl e i o n:=by
 intro ρ au i j v' he hv
 cases hv with
 | slice hr a b c d=>exact .slice (by rw [he];exact hr) a b c d

inductive vh:List (Nat→Value)→Prop
 | nil:vh []
 | cons {V:Nat→Value} {l:List (Nat→Value)}:mH V→vh l→vh (V::l)

theorem vh.rel {l:List (Nat→Value)} (h:vh l) {ρ au:aF} {i j:Nat} (e:au j=ρ i):∀{ys:List Value},bn ρ (l.map (· i)) ys→bn au (l.map (· j)) ys:=by
 induction h with
 | nil=>intro ys hv;cases hv;exact .nil
 | cons hV _ ih=>intro ys hv;cases hv with | cons a b=>exact .cons (hV _ _ _ _ _ e a) (ih b)

theorem mH.tuple {l:List (Nat→Value)} (h:vh l):mH fun i=>.tuple (l.map (· i)).toArray:=by
 intro ρ au i j v' e hv
 cases hv with
 | tuple hs hr=>
  rename_i eC
  have:=h.rel e (bn.qU hs hr)
  have:=aw.pO this
  simpa using this

theorem mH.agg {l:List (Nat→Value)} (h:vh l) (hc:∀j,∀V∈l,eL (V j)=true):mH fun i=>.agg (l.map (· i)).toArray:=by
 intro ρ au i j v' e hv
 cases hv with
 | agg hs h1 hr=>
  rename_i eC
  have:=h.rel e (bn.qU hs hr)
  have:=aw.An this (by
   intro x hx
   simp only [List.mem_map] at hx
   obtain ⟨V,hV,rfl⟩:=hx
   exact hc j V hV)
  simpa using this

section gc
variable {P : Program} {F : FuncId} {args : List Value} {h : ae}

def tl:aq→Bool
 | .ro _ xs | .arr _ xs=>xs.all ee
 | .smap es=>es.all fun p=>ee p.2
 | .jw _ es=>es.all fun p=>ee p.2
 | .dQ _ _ es=>es.all fun p=>ee p.2.2
 | _=>false

theorem tl.rel {ρ au:aF} {w:World} {r:RI} {o:aq} (hp:tl o=true) (h:jO ρ w r o):jO au w r o:=by
 have cells:∀{c:Array Value} {sh:Nat} {xs:List Value},xs.all ee=true→fw ρ c sh xs→fw au c sh xs:=by
  intro c sh xs hs hc j x hj
  obtain ⟨h1,y,hy,hr⟩:=hc j x hj
  rw [List.all_eq_true] at hs
  exact ⟨h1,y,hy,ee.rel (hs x (List.mem_of_getElem? hj)) hr⟩
 cases o with
 | ro e xs=>obtain ⟨h1,c,t,fr,h2,h3,h4⟩:=h;exact ⟨h1,c,t,fr,h2,h3,cells hp h4⟩
 | arr e xs=>obtain ⟨h1,h0,c,h2,h3,h4⟩:=h;exact ⟨h1,h0,c,h2,h3,cells hp h4⟩
 | smap es=>
  obtain ⟨aJ,clock,h1,h2,h3⟩:=h
  refine ⟨aJ,clock,h1,h2,fun j k v hj=>?_⟩
  obtain ⟨en,e1,e2,e3⟩:=h3 j k v hj
  simp only [tl,List.all_eq_true] at hp
  exact ⟨en,e1,e2,ee.rel (hp (k,v) (List.mem_of_getElem? hj)) e3⟩
 | jw kd es=>
  obtain ⟨aJ,clock,h1,h2,h3⟩:=h
  refine ⟨aJ,clock,h1,h2,fun j k v hj=>?_⟩
  obtain ⟨en,e1,e2,e3⟩:=h3 j k v hj
  simp only [tl,List.all_eq_true] at hp
  exact ⟨en,e1,e2,ee.rel (hp (k,v) (List.mem_of_getElem? hj)) e3⟩
 | dQ g c es=>
  obtain ⟨h0,aJ,h1,h2,h3⟩:=h
  refine ⟨h0,aJ,h1,h2,fun j b k v hj=>?_⟩
  obtain ⟨e0,en,e1,e2,vJ,e3⟩:=h3 j b k v hj
  simp only [tl,List.all_eq_true] at hp
  exact ⟨e0,en,e1,e2,vJ,ee.rel (hp (b,k,v) (List.mem_of_getElem? hj)) e3⟩
 | iter m s n l=>cases hp
 | loop c ls vs=>cases hp
 | dead=>cases hp

theorem aqc {K:Value→ae→Prop} {v:Value} {h':ae} (hV:mH fun _=>v) (hc:tI P F args [] v h') (ha:args.all ee=true) (hk:K v h):ak P F args h K:=by
 rw [sj]
 refine ⟨v,h,?_,hk⟩
 intro ρ args' w hv H
 have BA:∀{xs ys:List Value},xs.all ee=true→bn ρ xs ys→bn (fun _=>none) xs ys:=by
  intro xs ys hs hr
  induction hr with
  | nil=>exact .nil
  | cons a _ ih=>simp only [List.all_cons,Bool.and_eq_true] at hs;exact .cons (ee.rel hs.1 a) (ih hs.2)
 have H0:aT P (fun _=>none) [] w:=⟨fun i r hi=>(by cases hi),fun i j r s hi=>(by cases hi),fun i r hi=>(by cases hi)⟩
 refine (hc _ args' w (BA ha hv) H0).mono ?_
 rintro e w' ⟨v',au,rfl,iS,H',T⟩
 have dN:∀b,b<w.heap.size→w'.heap[b]?=w.heap[b]?:=fun b hb=>T.gf b hb fun j s hj=>(by cases hj)
 refine ⟨v',ρ,rfl,hV au ρ h'.length h.length v' (by rw [H.none,H'.none]) iS,⟨?_,H.inj,H.aV⟩,?_⟩
 ·intro k r hr
  obtain ⟨o,ho,lF⟩:=H.obj k r hr
  refine ⟨o,ho,?_⟩
  by_cases hd:o=.dead
  ·subst hd;trivial
  ·exact lF.mono (.refl _) (dN _ (zp H hr ⟨o,ho,hd⟩))
 ·exact {
   ext:=.refl _
   len:=Nat.le_refl _
   iB:=fun k r hr=>H.lt hr
   kinds:=fun _ _ h=>h
   fresh:=fun k r h1 h2=>by rw [h1] at h2;cases h2
   gI:=T.gI
   gf:=fun b hb _=>dN b hb
   os:=T.os
   tape:=T.tape
   output:=T.output }
end gc
end Go.Sim


namespace Go.Sim
open Go.ChangeShapes Go.WideShapes Go.ChangeAt Go.RowKit

def iG (h:ae):Prop:=∀i,¬cf h i

section
variable {P : Program} {W : World} {ρ : aF} {h : ae}

theorem aT.start (P:Program) (W:World):aT P (fun _=>Option.none) [] W:=⟨fun i r hi=>(by cases hi),fun i j r s hi=>(by cases hi),fun i r hi=>(by cases hi)⟩
theorem iG.start:iG []:=fun i hm=>by unfold cf at hm;simp at hm

theorem aT.Dn (H:aT P ρ h W) (hr:iG h) {r:RI} (he:r.aV=P.cellsOf r.elem) {o:aq} (cW:o=.dead∨∃e xs,o=.ro e xs) (ho:jO (ρ.add h.length r) W r o):
  aT P (ρ.add h.length r) (h++[o]) W∧iG (h++[o])∧ρ.le (ρ.add h.length r):=by
 have fR:iG (h++[o]):=by
  intro i hm
  unfold cf at hm
  by_cases hi:i<h.length
  ·rw [List.getElem?_append_left hi] at hm
   exact hr i hm
  ·by_cases he:i=h.length
   ·subst he
    have e:(h++[o])[h.length]?=some o:=by simp
    rw [e] at hm
    rcases cW with rfl | ⟨_,_,rfl⟩ <;> rcases hm with ⟨_,_,h1⟩ | ⟨_,h1⟩ | ⟨_,_,_,h1⟩ | ⟨_,_,h1⟩ | ⟨_,_,_,h1⟩ | ⟨_,_,_,_,h1⟩ <;> cases h1
   ·rw [List.getElem?_eq_none (by simp;omega)] at hm
    rcases hm with ⟨_,_,h1⟩ | ⟨_,h1⟩ | ⟨_,_,_,h1⟩ | ⟨_,_,h1⟩ | ⟨_,_,_,h1⟩ | ⟨_,_,_,_,h1⟩ <;> cases h1
 refine ⟨⟨?_,fun i j r s _ _ _ hm=>absurd hm (fR i),?_⟩,fR,aF.rL H.none⟩
 ·intro i s hi
  unfold aF.add at hi
  split at hi
  ·rename_i e
   subst e
   cases hi
   exact ⟨o,by simp,ho⟩
  ·obtain ⟨o',h1,h2⟩:=H.obj i s hi
   exact ⟨o',by rw [List.getElem?_append_left (H.lt hi)];exact h1,h2.mono (aF.rL H.none) rfl⟩
 ·intro i s hi
  unfold aF.add at hi
  split at hi
  ·cases hi;exact he
  ·exact H.aV i s hi

theorem ee.self {v:Value} (hs:ee v=true) (ρ:aF):aw ρ v v:=by
 unfold ee at hs
 split at hs
 ·exact .bool _
 ·exact .int _ _
 ·exact .string _
 ·exact .nilFunc
 ·exact .nilIface
 ·exact .rP
 ·exact .rO
 ·exact .nG
 ·cases hs

theorem ee.cell {v:Value} (hs:ee v=true):eL v=true:=by
 unfold ee at hs
 split at hs <;> first | rfl | cases hs

variable {H : Type} {enc : TypeId × Value → H}

theorem addr_eq {a:Addr} (hs:a.spot=none) (n:Nat):a.add n=⟨a.block,a.off+n,none⟩:=by
 obtain ⟨b,o,s⟩:=a
 simp only at hs
 subst hs
 unfold Addr.add
 split
 ·rename_i h;subst h;rfl
 ·rfl

theorem YG {t e:TypeId} (ht:P.underlying t=some (.slice e)) (fQ:P.cellsOf e≠0)
  (flat:∀n cs y,DataW.trod enc P W 0 (fun _=>true) true n e cs=some y→cs.length=P.cellsOf e∧∀x∈cs,ee x=true)
  {fuel:Nat} {v:Value} {x:DataW H×List MemPlace} (hd:DataW.trod enc P W 0 (fun _=>true) true fuel t [v]=some x) (aB:∀(a:Addr) (len cap:Nat),v=.slice (some a) len cap→a.spot=none) (HR:aT P ρ h W) (fR:iG h):
  ∃(au:aF) (g:ae) (v':Value) (n:Nat) (xs:List Value),ρ.le au∧aT P au (h++g) W∧iG (h++g)∧aw au v' v∧eL v'=true∧
   ((v'=.slice none 0 0∧n=0)∨∃i,v'=sl e i 0 n∧(n=0∨aO (h++g) i=some xs))∧xs.length=n*P.cellsOf e∧(∀y∈xs,ee y=true)∧
   ∀i,i<n→∃m y,DataW.trod enc P W 0 (fun _=>true) true m e ((xs.drop (i*P.cellsOf e)).take (P.cellsOf e))=some y:=by
 rcases DataW.trod_slice ht hd with ⟨h1,_⟩ | ⟨a,len,cap,elems,rest,n,_,h1,_,hb,hl,hm,hlen,Bb,sT,_⟩
 ·obtain rfl:v=.slice none 0 0:=by simpa using h1
  exact ⟨ρ,[],.slice none 0 0,0,[],.refl _,by simpa using HR,by simpa using fR,.nG,rfl,.inl ⟨rfl,rfl⟩,by simp,by simp,fun i hi=>by omega⟩
 ·obtain rfl:v=.slice (some a) len cap:=by simpa using h1
  have ow:a.spot=none:=aB a len cap rfl
  obtain ⟨FU,hr⟩:=sT rfl
  -- every aBg cells lie there
  have each:∀i,i<cap→∃cs y,W.cells? 0 (a.add (i*P.cellsOf e)) (P.cellsOf e)=some cs∧DataW.trod enc P W 0 (fun _=>true) true n e cs=some y:=by
   intro i hi
   have jH:∃y,(W.cells? 0 (a.add (i*P.cellsOf e)) (P.cellsOf e)).bind (DataW.trod enc P W 0 (fun _=>true) true n e)=some y:=by
    by_cases bf:i<len
    ·rw [Bb i bf,List.getElem?_eq_getElem (by omega)]
     exact ⟨_,rfl⟩
    ·have:=hr (i-len) (by omega)
     rw [show len+(i-len)=i by omega] at this
     rw [this,List.getElem?_eq_getElem (by omega)]
     exact ⟨_,rfl⟩
   obtain ⟨y,hy⟩:=jH
   rw [Option.bind_eq_some_iff] at hy
   obtain ⟨cs,h1,h2⟩:=hy
   exact ⟨cs,y,h1,h2⟩
  by_cases pf:cap=0
  ·subst pf
   obtain rfl:len=0:=by omega
   obtain ⟨H',uv,hle⟩:=HR.Dn fR (r:=⟨a.block,a.off,e,P.cellsOf e,a.off⟩) rfl (.inl rfl) trivial
   refine ⟨_,[.dead],sl e h.length 0 0,0,[],hle,H',uv,?_,rfl,.inr ⟨_,rfl,.inl rfl⟩,by simp,by simp,fun i hi=>by omega⟩
   obtain ⟨ab,ao,p5⟩:=a
   simp only at ow
   subst ow
   exact aw.slice (ρ:=ρ.add h.length ⟨ab,ao,e,P.cellsOf e,ao⟩) (i:=h.length) (o:=0) (n:=0) (o':=ao) (c':=0) (r:=⟨ab,ao,e,P.cellsOf e,ao⟩) (by simp [aF.add]) (.inl rfl) (Nat.le_refl _) (by unfold maxLen;omega) (by simp)
  ·have uj:0<P.cellsOf e:=by omega
   -- ft block
   have M1:∃c tt fr,W.heap[a.block]?=some (.cells c tt fr):=by
    obtain ⟨cs,y,h1,h2⟩:=each 0 (by omega)
    obtain ⟨_,g2,g3⟩:=World.cells?_some h1
    have:=g3 0 uj
    rw [Nat.zero_mul,addr_eq ow 0,addr_eq rfl 0,List.getElem?_eq_getElem (by omega)] at this
    unfold World.cell? at this
    split at this
    ·rename_i c tt fr hh;exact ⟨c,tt,fr,hh⟩
    ·cases this
   obtain ⟨c,tt,fr,nr⟩:=M1
   have get:∀i cs,W.cells? 0 (a.add (i*P.cellsOf e)) (P.cellsOf e)=some cs→∀j,j<P.cellsOf e→c[a.off+(i*P.cellsOf e+j)]?=cs[j]?:=by
    intro i cs h1 j hj
    obtain ⟨_,g2,g3⟩:=World.cells?_some h1
    have:=g3 j hj
    rw [addr_eq ow,addr_eq rfl] at this
    simp only [World.cell?,nr] at this
    simpa [Nat.add_assoc] using this
   have here:∀j,j<cap*P.cellsOf e→∃y,c[a.off+j]?=some y∧ee y=true:=by
    intro j hj
    have hi:j / P.cellsOf e<cap:=(Nat.div_lt_iff_lt_mul uj).2 hj
    obtain ⟨cs,y,h1,h2⟩:=each _ hi
    obtain ⟨f1,f2⟩:=flat n cs y h2
    have mQ:j%P.cellsOf e<P.cellsOf e:=Nat.mod_lt _ uj
    have:=get _ cs h1 (j%P.cellsOf e) mQ
    rw [show j / P.cellsOf e*P.cellsOf e+j%P.cellsOf e=j by rw [Nat.mul_comm];exact Nat.div_add_mod j _] at this
    rw [this,List.getElem?_eq_getElem (by omega)]
    exact ⟨_,rfl,f2 _ (List.getElem_mem _)⟩
   let xs:=(List.range (len*P.cellsOf e)).map fun j=>c.getD (a.off+j) Go.undef
   have fY:xs.length=len*P.cellsOf e:=by simp [xs]
   have hlc:len*P.cellsOf e≤cap*P.cellsOf e:=Nat.mul_le_mul_right _ hl
   have N3:∀j,j<len*P.cellsOf e→xs[j]?=c[a.off+j]?:=by
    intro j hj
    obtain ⟨y,h1,_⟩:=here j (by omega)
    simp [xs,hj,h1]
   have nB:∀y∈xs,ee y=true:=by
    intro y hy
    obtain ⟨j,hj⟩:=List.getElem?_of_mem hy
    have aC:j<len*P.cellsOf e:=by have:=(List.getElem?_eq_some_iff.1 hj).1;omega
    obtain ⟨z,h1,h2⟩:=here j (by omega)
    rw [N3 j aC,h1] at hj
    cases hj
    exact h2
   have NV:a.off+cap*P.cellsOf e≤c.size:=by
    have aBC:0<cap*P.cellsOf e:=Nat.mul_pos (by omega) uj
    obtain ⟨y,h1,_⟩:=here (cap*P.cellsOf e-1) (by omega)
    have:=(Array.getElem?_eq_some_iff.1 h1).1
    omega
   obtain ⟨H',uv,hle⟩:=HR.Dn fR (r:=⟨a.block,a.off,e,P.cellsOf e,c.size⟩) rfl (.inr ⟨e,xs,rfl⟩) ⟨rfl,c,tt,fr,nr,rfl,fun j y hj=>by
    have aC:j<len*P.cellsOf e:=by have:=(List.getElem?_eq_some_iff.1 hj).1;omega
    rw [N3 j aC] at hj
    obtain ⟨z,h1,h2⟩:=here j (by omega)
    rw [h1] at hj
    cases hj
    exact ⟨ee.cell h2,_,h1,ee.self h2 _⟩⟩
   refine ⟨_,[.ro e xs],sl e h.length 0 len,len,xs,hle,H',uv,?_,rfl,.inr ⟨_,rfl,.inr (by simp [aO])⟩,fY,nB,?_⟩
   ·obtain ⟨ab,ao,p5⟩:=a
    simp only at ow
    subst ow
    exact aw.slice (ρ:=ρ.add h.length ⟨ab,ao,e,P.cellsOf e,c.size⟩) (i:=h.length) (o:=0) (n:=len) (o':=ao) (c':=cap) (r:=⟨ab,ao,e,P.cellsOf e,c.size⟩) (by simp [aF.add]) (.inl rfl) hl hm NV
   ·intro i hi
    obtain ⟨cs,y,h1,h2⟩:=each i (by omega)
    refine ⟨n,y,?_⟩
    have fh:=(flat n cs y h2).1
    have hmul:(i+1)*P.cellsOf e≤len*P.cellsOf e:=Nat.mul_le_mul_right _ hi
    rw [Nat.add_mul,Nat.one_mul] at hmul
    have:(xs.drop (i*P.cellsOf e)).take (P.cellsOf e)=cs:=by
     apply List.ext_getElem?
     intro j
     rw [List.getElem?_take]
     by_cases hj:j<P.cellsOf e
     ·rw [if_pos hj,List.getElem?_drop,N3 _ (by omega),get i cs h1 j hj]
     ·rw [if_neg hj,List.getElem?_eq_none (by omega)]
    rw [this]
    exact h2

theorem ary {t e:TypeId} (ht:P.underlying t=some (.slice e)) (fQ:P.cellsOf e≠0)
  (flat:∀n cs y,DataW.trod enc P W 0 (fun _=>true) true n e cs=some y→cs.length=P.cellsOf e∧∀x∈cs,ee x=true)
  {fuel b:Nat} {v:Value} {x:DataW H×List MemPlace} (hd:DataW.trod enc P W 0 (fun _=>true) true fuel t [v]=some x) (aB:Cell.okWide P W .any b t v) (HR:aT P ρ h W) (fR:iG h):
  ∃(au:aF) (g:ae) (v':Value) (n:Nat) (xs:List Value),ρ.le au∧aT P au (h++g) W∧iG (h++g)∧aw au v' v∧eL v'=true∧
   ((v'=.slice none 0 0∧n=0)∨∃i,v'=sl e i 0 n∧(n=0∨aO (h++g) i=some xs))∧xs.length=n*P.cellsOf e∧(∀y∈xs,ee y=true)∧
   ∀i,i<n→∃m y,DataW.trod enc P W 0 (fun _=>true) true m e ((xs.drop (i*P.cellsOf e)).take (P.cellsOf e))=some y:=by
 refine YG ht fQ flat hd (fun a len cap hv=>?_) HR fR
 subst hv
 simp only [Cell.okWide,ht,Cell.ok] at aB
 exact aB.2.2.2.1

theorem aAp {e:TypeId} {k:IntKind} (he:P.underlying e=some (.int k)) (hc:P.cellsOf e=1):∀n cs y,DataW.trod enc P W 0 (fun _=>true) true n e cs=some y→cs.length=P.cellsOf e∧∀x∈cs,ee x=true:=by
 intro n cs y h
 obtain ⟨m,rfl,_,_⟩:=DataW.trod_int he h
 exact ⟨by rw [hc];rfl,by simp [ee]⟩

theorem ah7 (hl:laidOutB P=true) {W':World} (hb:Below W.heap.size W W'):∀{ts:List TypeId} {vs:List Value} {ds:List (DataW H)} {p:List MemPlace},(∀t∈ts,P.readableRec t=true∧t<P.types.size)→
  DataW.TrodAll enc P W 0 (fun _=>true) true ts vs ds p→(∀x∈p,x.block<W.heap.size)→DataW.TrodAll enc P W' 0 (fun b=>decide (b<W.heap.size)) true ts vs ds p
 | [],vs,ds,p,_,h,_=>by
  obtain ⟨rfl,rfl,rfl⟩:=trodAll_nil h
  exact trodAll_mk0
 | t::ts,vs,ds,p,hr,h,aC=>by
  obtain ⟨v,iI,d,ds',a,b,rfl,rfl,rfl,h1,h2⟩:=trodAll_cons h
  exact trodAll_cons_mk (Below.trod hl (hr t (by simp)).1 (hr t (by simp)).2 h1 hb fun x hx=>aC x (by simp [hx]))
   (ah7 hl hb (fun t ht=>hr t (by simp [ht])) h2 fun x hx=>aC x (by simp [hx]))

theorem avy (hl:laidOutB P=true) {f:Func} {s:ChangeSpec} {t4:TypeId} {W':World} {args:Array Value} {ds gs:List (DataW H)} {before:List MemPlace} (hW:DataW.Whole enc P f.params.toList s.vars false W args.toList ds gs before)
  (hv:s.vars=[]) (ht4:P.underlying t4=some .bool) (hr:f.resultTypes=#[t4]) (hfn:∀MT,MT=[]→s.fn H (ds++MT)={ results:=[.lit (.bool true)],args:=ds })
  (as2:∀t∈f.params.toList,P.readableRec t=true∧t<P.types.size) (hb:Below W.heap.size W W'):s.post enc P f false true false false W args (.bool true) W':=by
 have Fp:=hW
 obtain ⟨p,q,hA,hV,rfl,_,_⟩:=hW
 rw [hv] at hV
 obtain ⟨rfl,rfl⟩:=trodVars_none hV
 have aC:∀x∈p,x.block<W.heap.size:=fun x hx=>Fp.lt x (by simp [hx])
 have e:=hfn [] rfl
 refine ⟨ds,[],p++[],[],p,[],Fp,?_,?_,?_,hb.frame _,fun h=>by cases h⟩
 ·rw [e,hr]
  exact trodAll_mk1 (shut_bool ht4 true)
 ·rw [e]
  exact ah7 hl hb as2 hA aC
 ·rw [e,hv]
  rfl

end
end Go.Sim


namespace Go.Sim

theorem Hp (k:IntKind) (a b:Nat) (hb:b≠0):ai .rem (.int k (a:Int)) (.int k (b:Int))=some (.int k ((a%b:Nat):Int)):=by
 have h:¬((b:Int)=0):=by omega
 simp only [ai,gn,if_true,if_neg h]
 congr 2

structure NS (h:ae) (v:Value) (k:IntKind) (ns:List Int):Prop where
 len:aY v=some (I ns.length)
 get:∀i (hi:i<ns.length),∃b o,aU 1 v (I i)=some (pt b o)∧af false 1 h (pt b o)=some (.int k ns[i])
 le:ns.length≤maxLen

theorem auR {h h':ae} (k:EX h h') {agg:Bool} {n:Nat} {a v:Value} (hl:af agg n h a=some v):af agg n h' a=some v:=by
 unfold af at hl⊢
 split at hl
 ·rename_i i o
  cases hc:aO h i with
  | none=>rw [hc] at hl;cases hl
  | some xs=>rw [hc] at hl;rw [k.cells hc];exact hl
 ·cases hl

theorem NS.mono {h h':ae} {v:Value} {k:IntKind} {ns:List Int} (e:EX h h') (p:NS h v k ns):NS h' v k ns:=
 ⟨p.len,fun j hj=>let ⟨i,o,a,b⟩:=p.get j hj;⟨i,o,a,auR e b⟩,p.le⟩

theorem NS.nil (h:ae) (k:IntKind):NS h (.slice none 0 0) k []:=⟨rfl,fun i hi=>by simp at hi,by simp⟩

theorem NS.sl {h:ae} {e:TypeId} {i:Nat} {k:IntKind} {ns:List Int} (hc:ns=[]∨aO h i=some (ns.map (Value.int k))) (hl:ns.length≤maxLen):NS h (sl e i 0 ns.length) k ns:=by
 refine ⟨rfl,fun j hj=>⟨i,j,?_,?_⟩,hl⟩
 ·have:(0:Int)≤(j:Int)∧(j:Int)<(ns.length:Int):=by omega
  simp [Go.Sim.sl,aU,this]
 ·have hc:=hc.resolve_left (by rintro rfl;simp at hj)
  simp [af,hc,ck,hj]

section
open Go.ChangeShapes
variable {P : Program} {W : World} {ρ : aF} {h : ae} {H : Type} {enc : TypeId × Value → H}

theorem aaT {e:TypeId} {k:IntKind} (he:P.underlying e=some (.int k)):∀{n:Nat} {xs:List Value},xs.length=n*1→(∀i,i<n→∃m y,DataW.trod enc P W 0 (fun _=>true) true m e ((xs.drop (i*1)).take 1)=some y)→
  ∃ns:List Int,ns.length=n∧xs=ns.map (Value.int k)∧∀x∈ns,(Lit.int k x).wf=true
 | 0,xs,hl,_=>⟨[],rfl,by simpa using hl,by simp⟩
 | n+1,xs,hl,hp=>by
  match xs,hl with
  | x::xs,hl=>
   obtain ⟨m,y,hy⟩:=hp 0 (by omega)
   simp at hy
   obtain ⟨z,hz,_,hw⟩:=DataW.trod_int he hy
   simp at hz
   subst hz
   obtain ⟨ns,h1,h2,h3⟩:=aaT he (n:=n) (xs:=xs) (by simp at hl;omega) fun i hi=>by
    have:=hp (i+1) (by omega)
    rw [show (i+1)*1=i*1+1 by omega] at this
    simpa using this
   exact ⟨z::ns,by simp [h1],by simp [h2],by intro a ha;rcases List.mem_cons.1 ha with rfl | ha;exact hw;exact h3 a ha⟩

end
end Go.Sim


namespace Go.Sim

def zL (P:Program) (o:fU) (f:Nat→Value) (h:ae) (K:Value→ae→Prop):Prop:=
 match o with
 | .e (.next it)=>∃l,xj h (ev f it)=some l∧∀p∈l,K p.1 p.2
 | o=>cQ P o f h K

def yp (P:Program):List hC→((Nat→Value)→ae→Prop)→(Nat→Value)→ae→Prop
 | [],K,f,h=>K f h
 | o::os,K,f,h=>zL P o.op f h fun v h'=>yp P os K (db f o.dst v) h'

def Gy (P:Program) (g:Option (Nat×Bool)) (l:List hC) (K:(Nat→Value)→ae→Prop) (f:Nat→Value) (h:ae):Prop:=
 match g with
 | none=>yp P l K f h
 | some (s,b)=>qO P (some (s,b)) l K f h

noncomputable def j6 (P:Program) (c:dX):ar→(Nat→Value)→ae→Prop:=
 dX.rec (motive:=fun _=>ar→(Nat→Value)→ae→Prop)
  (fun K f h=>K .normal f h)
  (fun l K f h=>ma P l 0 [] [] (K .normal) f h)
  (fun g l K f h=>Gy P g l (K .normal) f h)
  (fun _ _ ia ib K f h=>ia (aD (ib K) K) f h)
  (fun ls _ ic K f h=>ye (ic K) ls (ls.map f) h)
  (fun c _ _ ia ib K f h=>nj (ev f c) (ia K f h) (ib K f h))
  (fun id _ ic K f h=>ic (bz id K) f h)
  (fun ks ls _ ic K f h=>xa (ls.map f) h fun L xs hx=>ic (aD (fun f' aS=>ks.map f'=ks.map f∧L (ls.map f') aS) K) (ji (ks++ls) (ks.map f++xs)) hx)
  (fun id K f h=>K (.exit id) f h)
  (fun K f h=>K .ret f h)
  (fun g ls c K f h=>rU P (ev f g) ls (ls.map f) c h (K .normal f)) c

section
variable {P : Program} {w : World} {ρ : aF} {h : ae}

theorem au8 (H:aT P ρ h w) {it BK:Value} {l:List (Value×ae)} (hn:xj h it=some l) (hv:aw ρ it BK) (ty:TypeId):
  ∃p∈l,∃v' w',(Instr.next BK false ty).run P w=.ok v' w'∧aw ρ p.1 v'∧aT P ρ p.2 w'∧Tr ρ h w ρ p.2 w':=by
 unfold xj at hn
 split at hn
 ·rename_i j
  split at hn
  ·rename_i i since seen last qx
   split at hn
   ·rename_i g c es jd
    split at hn
    ·cases hn
    rename_i pc
    simp only [Option.some.injEq] at hn
    cases hv with
    | ptr hr=>
     rename_i r
     obtain ⟨o,ho,lF⟩:=H.obj j r hr
     rw [qx] at ho
     cases ho
     obtain ⟨uz,rm,FV,hb⟩:=lF
     obtain ⟨aJ,hm,E⟩:=H.yh FV jd
     rw [uz]
     -- ft entries,one by one
     have asQ:aJ.toList.map (fun e=>e.born)=es.map fun e=>e.1:=by
      apply List.ext_getElem?
      intro q
      simp only [List.getElem?_map]
      by_cases hq:q<es.length
      ·have he:=List.getElem?_eq_getElem hq
       generalize es[q]=x at he
       obtain ⟨b,k,v⟩:=x
       obtain ⟨_,en,g2,g3,g4,g5⟩:=E.get q b k v he
       rw [he,Array.getElem?_toList,g2]
       simp [g4]
      ·have h1:aJ.toList[q]?=none:=List.getElem?_eq_none (by rw [Array.length_toList,E.size];omega)
       rw [h1,List.getElem?_eq_none (by omega)];rfl
     have hz:∀en∈aJ.toList,∃e∈es,e.1=en.born∧e.2.1=en.key∧aw ρ e.2.2 en.val:=by
      intro en yD
      obtain ⟨q,hq,e'⟩:=List.mem_iff_getElem.1 yD
      have:aJ[q]?=some en:=by rw [←Array.getElem?_toList,List.getElem?_eq_getElem hq,e']
      obtain ⟨v,q1,_,q3⟩:=E.inv this
      exact ⟨_,List.mem_of_getElem? q1,rfl,rfl,q3⟩
     have pF:∀e∈es,∃en∈aJ.toList,e.1=en.born:=by
      intro e he
      have:e.1∈es.map fun e=>e.1:=List.mem_map.2 ⟨e,he,rfl⟩
      rw [←asQ] at this
      obtain ⟨en,h1,h2⟩:=List.mem_map.1 this
      exact ⟨en,h1,h2.symm⟩
     -- pQ ft model aBQ
     let left:=aJ.filter fun e=> !(seen.toArray.contains e.born)
     let old:=left.filter fun e=>decide (e.born<since)
     let new:=left.filter fun e=>decide (e.born≥since)
     let nh:Array (Option MapEntry):=(if old.isEmpty then #[none] else #[])++(old++new).map some
     have rz:(!seen.toArray.isEmpty&& !aJ.isEmpty&&aJ.all fun e=>decide (e.born≥last))=false:=by
      rw [Bool.eq_false_iff]
      intro hx
      apply pc
      simp only [Bool.and_eq_true] at hx⊢
      obtain ⟨⟨x1,x2⟩,x3⟩:=hx
      refine ⟨⟨by simpa using x1,?_⟩,?_⟩
      ·have:aJ.size≠0:=by simpa [Array.isEmpty] using x2
       rw [E.size] at this
       simpa [List.isEmpty_iff] using this
      ·rw [List.all_eq_true]
       intro e he
       obtain ⟨en,h1,h2⟩:=pF e he
       rw [Array.all_eq_true'] at x3
       have:=x3 en (by simpa using h1)
       rw [h2]
       exact this
     have fQ:0<nh.size:=by
      simp only [nh]
      by_cases ho:old.isEmpty=true
      ·rw [if_pos ho];simp;omega
      ·rw [if_neg ho]
       have:old.size≠0:=by simpa [Array.isEmpty] using ho
       simp;omega
     have bN:(getObj r.bj).run P w=.ok (.mapIter (some rm.bj) since seen.toArray last) w:=by simp [getObj,Sem.run,hb]
     have Ng:(getObj rm.bj).run P w=.ok (.map aJ c) w:=by simp [getObj,Sem.run,hm]
     obtain ⟨q,w1,hq,sH,N0,Zm⟩:∃q w1,q<nh.size∧(choose (.mapNext nh.size)).run P w=.ok q w1∧(w1.heap=w.heap∧aT P ρ h w1)∧Tr ρ h w ρ h w1:=by
      by_cases ZE:(Question.mapNext nh.size).forced=true
      ·exact ⟨0,w,fQ,by simp [choose,Sem.run,ZE],⟨rfl,H⟩,Tr.refl H⟩
      ·exact ⟨(w.tape w.drawn (.mapNext nh.size))%nh.size,{ w with drawn:=w.drawn+1 },Nat.mod_lt _ fQ,by simp [choose,Sem.run,ZE,Question.cut],⟨rfl,H.drew _⟩,Tr.drew H _⟩
     have hold:(es.filter fun e=> !seen.contains e.1).filter (fun e=>decide (e.1<since))=[]↔old.isEmpty=true:=by
      constructor
      ·intro h0
       simp only [old,left]
       rw [Array.isEmpty_iff_size_eq_zero]
       apply Classical.byContradiction
       intro br
       obtain ⟨en,yD⟩:∃en,en∈(Array.filter (fun e=>decide (e.born<since)) (Array.filter (fun e=> !(seen.toArray.contains e.born)) aJ)):=⟨_,Array.getElem_mem (i:=0) (by omega)⟩
       rw [Array.mem_filter,Array.mem_filter] at yD
       obtain ⟨⟨e1,e2⟩,e3⟩:=yD
       obtain ⟨e,he,g1,_,_⟩:=hz en (by simpa using e1)
       have:e∈(es.filter fun e=> !seen.contains e.1).filter (fun e=>decide (e.1<since)):=by
        rw [List.mem_filter,List.mem_filter,g1]
        exact ⟨⟨he,by simpa using e2⟩,e3⟩
       rw [h0] at this
       cases this
      ·intro h0
       rw [Array.isEmpty_iff_size_eq_zero] at h0
       rw [List.filter_eq_nil_iff]
       intro e he aC
       rw [List.mem_filter] at he
       obtain ⟨en,h1,h2⟩:=pF e he.1
       have:en∈old:=by
        simp only [old,left]
        rw [Array.mem_filter,Array.mem_filter,←h2]
        exact ⟨⟨by simpa using h1,by simpa using he.2⟩,aC⟩
       rw [Array.eq_empty_of_size_eq_zero h0] at this
       simp at this
     have Ft:w1.heap[r.bj]?=some (.mapIter (some rm.bj) since seen.toArray last):=by rw [N0.1];exact hb
     obtain ⟨cq,Fv⟩:∃cq,nh[q]?=some cq:=⟨_,Array.getElem?_eq_getElem hq⟩
     have fF:∀{v' w'},(match nh[q]? with
       | some (some e)=>(do setObj r.bj (.mapIter (some rm.bj) since (seen.toArray.push e.born) c);pure (.tuple #[.bool true,e.key,e.val]):Sem Value)
       | some none=>pure (.tuple #[.bool false])
       | none=>stuck "Next: no such candidate").run P w1=.ok v' w'→(Instr.next (.pointer (some ⟨r.bj,0+0,none⟩)) false ty).run P w=.ok v' w':=by
      intro v' w' hx
      unfold Instr.next
      simp only [Nat.add_zero,Sem.run_bind,bN,Result.andThen_ok,Ng,rz,Bool.false_eq_true,if_false]
      show ((choose (.mapNext nh.size)).run P w).andThen _=_
      rw [sH]
      exact hx
     cases cq with
     | none=>
      -- it is GC
      have ho:old.isEmpty=true:=by
       apply Classical.byContradiction
       intro ho
       have:(none:Option MapEntry)∈nh:=Array.mem_of_getElem? Fv
       simp only [nh,if_neg ho] at this
       simp at this
      refine ⟨(.tuple #[.bool false],h),?_,.tuple #[.bool false],w1,fF (by rw [Fv];rfl),aw.pO (.cons (.bool _) .nil),N0.2,Zm⟩
      rw [←hn]
      have:=hold.2 ho
      refine List.mem_append_left _ ?_
      rw [this];simp
     | some en=>
      have yD:en∈old++new:=by
       have:(some en:Option MapEntry)∈nh:=Array.mem_of_getElem? Fv
       simp only [nh] at this
       rcases Array.mem_append.1 this with h1 | h1
       ·split at h1 <;> simp at h1
       ·obtain ⟨e2,h2,h3⟩:=Array.mem_map.1 h1
        cases h3
        exact h2
      have Fy:en∈aJ.toList∧seen.contains en.born=false:=by
       rcases Array.mem_append.1 yD with h1 | h1
       ·simp only [old,left] at h1
        rw [Array.mem_filter,Array.mem_filter] at h1
        exact ⟨by simpa using h1.1.1,by simpa using h1.1.2⟩
       ·simp only [new,left] at h1
        rw [Array.mem_filter,Array.mem_filter] at h1
        exact ⟨by simpa using h1.1.1,by simpa using h1.1.2⟩
      obtain ⟨e,he,g1,g2,g3⟩:=hz en Fy.1
      have aC:=(List.getElem?_eq_some_iff.1 qx).1
      have hI:cf h j:=.inr (.inr (.inr (.inr (.inr ⟨_,_,_,_,qx⟩))))
      have sb:=kJ.obj Ft (.mapIter (some rm.bj) since (seen.toArray.push en.born) c)
      obtain ⟨q1,q2⟩:=N0.2.set (o:=.iter i since (seen++[e.1]) c) hr hI sb ⟨uz,rm,FV,by rw [sb.here,g1];simp⟩
      have jZ:(setObj r.bj (.mapIter (some rm.bj) since (seen.toArray.push en.born) c)).run P w1=.ok () { w1 with heap:=w1.heap.setIfInBounds r.bj (.mapIter (some rm.bj) since (seen.toArray.push en.born) c) }:=by
       simp [setObj,Sem.run,Ft]
      refine ⟨(.tuple #[.bool true,e.2.1,e.2.2],h.set j (.iter i since (seen++[e.1]) c)),?_,.tuple #[.bool true,en.key,en.val],_,fF (by rw [Fv];simp only [Sem.run_bind,jZ,Result.andThen_ok,Sem.run_pure]),?_,q1,Zm.trans q2⟩
      ·rw [←hn]
       refine List.mem_append_right _ (List.mem_map.2 ⟨e,?_,rfl⟩)
       have hl:e∈es.filter fun e=> !seen.contains e.1:=by
        rw [List.mem_filter,g1]
        exact ⟨he,by simp at Fy⊢;exact Fy.2⟩
       by_cases ky:e.1<since
       ·exact List.mem_append_left _ (List.mem_filter.2 ⟨hl,by simpa using ky⟩)
       ·exact List.mem_append_right _ (List.mem_filter.2 ⟨hl,by simpa using Nat.le_of_not_lt ky⟩)
      ·rw [g2]
       have Ns:aw ρ en.key en.key:=by
        have hk:ep g en.key=true:=by
         obtain ⟨q',fJ,e'⟩:=List.mem_iff_getElem.1 Fy.1
         have:aJ[q']?=some en:=by rw [←Array.getElem?_toList,List.getElem?_eq_getElem fJ,e']
         exact (E.inv this).choose_spec.2.1
        have ints:∀{kd:IntKind} {v:Value},jM kd v=true→aw ρ v v∧eL v=true:=by
         intro kd v hv
         cases v <;> simp [jM] at hv
         exact ⟨.int _ _,rfl⟩
        cases Bi:en.key with
        | int kd n=>exact .int _ _
        | string s=>exact .string _
        | agg cs=>
         rw [Bi] at hk
         cases g with
         | ints n kd=>
          simp only [ep,Bool.and_eq_true,List.all_eq_true] at hk
          refine .agg rfl (fun x hx=>(ints (hk.2 x hx).1).2) (fun k x x' hx bG=>?_)
          rw [hx] at bG
          cases bG
          exact (ints (hk.2 x (by rw [←Array.getElem?_toList] at hx;exact List.mem_of_getElem? hx)).1).1
         | int _=>simp [ep,jM] at hk
         | str=>simp [ep] at hk
        | _=>rw [Bi] at hk;cases g <;> simp [ep,jM] at hk
       exact aw.pO (.cons (.bool _) (.cons Ns (.cons g3 .nil)))
   ·cases hn
  ·cases hn
 ·cases hn

end
end Go.Sim


namespace Go.Sim

section
variable {P : Program} {N : Nat}

theorem aqp {op:Op} {it:Operand} (h:gA P op=some (.next it)):op=.next it false:=by
 unfold gA at h
 split at h
 case h_13=>simp at h;subst h;rfl
 all_goals exfalso
 all_goals repeat' (split at h)
 all_goals first | (cases h;done) | (simp at h;done) | (simp only [Option.map_eq_some_iff] at h;obtain ⟨_,_,h⟩:=h;cases h;done) | skip

theorem avj {o:Oper} {io:fU} {f:Nat→Value} {h:ae} {K:Value→ae→Prop} (hc:sv P o.op=some io) (aB:o.op.operands.all iy=true) (hs:zL P io f h K):
  ∀R B ρ a w,Rel P N B ρ f h a w→∀(next:Act→World→Prop) (Q:Exit→Act→World→Prop),
   (∀v h' au v' w',K v h'→aw au v v'→aT P au h' w'→Tr ρ h w au h' w'→next (a.put o.dst v') w')→o.wpIn (FR R) 0 P a w next Q:=by
 have Yp:cQ P io f h K→∀R B ρ a w,Rel P N B ρ f h a w→∀(next:Act→World→Prop) (Q:Exit→Act→World→Prop),
   (∀v h' au v' w',K v h'→aw au v v'→aT P au h' w'→Tr ρ h w au h' w'→next (a.put o.dst v') w')→o.wpIn (FR R) 0 P a w next Q:=by
  intro hs R B ρ a w Rr next Q hn
  obtain ⟨v,h',st,hk⟩:=xl (N:=N) hc aB hs
  exact st R B ρ a w Rr next Q fun au v' w' h1 h2 h3=>hn v h' au v' w' hk h1 h2 h3
 cases io with
 | e eo=>
  cases eo with
  | next it=>
   obtain ⟨l,hl,hk⟩:=hs
   rcases L8 hc with ⟨po,e,_⟩ | ⟨lo,e,_⟩ | ⟨eo,e,he⟩ | ⟨g,args,at_,_,_,e⟩ | ⟨x,args,at_,_,e⟩
   ·cases e
   ·cases e
   ·cases e
    have cN:=aqp he
    intro R B ρ a w Rr next Q hn
    rw [cN] at aB
    simp [Op.operands] at aB
    obtain ⟨p,hp,v',w',h1,h2,h3,h4⟩:=au8 Rr.heap hl (Rr.ev aB) o.type
    exact Ii (Yi hc) (v:=v') (w':=w') (by simp [execOp,cN,h1]) (hn p.1 p.2 ρ v' w' (hk p hp) h2 h3 h4)
   ·cases e
   ·cases e
  | _=>exact Yp hs
 | _=>exact Yp hs

def lT (P:Program) (N:Nat) (ops:Array Oper) (idx:List Nat) (f:Nat→Value) (h:ae) (K:(Nat→Value)→ae→Prop):Prop:=
 ∀S B ρ a w,Rel P N B ρ f h a w→∀Q:Exit→Act→World→Prop,(∀f' h' au a' w',K f' h'→Rel P N B au f' h' a' w'→Tr ρ h w au h' w'→Q .normal a' w')→wpOpsIn (FR S) 0 P ops Q idx a w

theorem fV.n {ops:Array Oper} {idx:List Nat} {f f':Nat→Value} {h h':ae} {K:(Nat→Value)→ae→Prop} (r:fV P N ops idx f h f' h') (hk:K f' h'):lT P N ops idx f h K:=
 fun S B ρ a w R Q hq=>r S B ρ a w R Q fun au a' w' R' T=>hq f' h' au a' w' hk R' T

theorem lT.append {ops:Array Oper} {i j:List Nat} {f:Nat→Value} {h:ae} {K K':(Nat→Value)→ae→Prop} (a:lT P N ops i f h K) (b:∀cL h₁,K cL h₁→lT P N ops j cL h₁ K'):lT P N ops (i++j) f h K':=by
 intro S B ρ ac w R Q hq
 refine se (a S B ρ ac w R _ ?_)
 intro cL h₁ kY vA mB hk vi T
 exact b cL h₁ hk S B kY vA mB vi Q fun f' h' au a' w' bV R' T'=>hq f' h' au a' w' bV R' (T.trans T')

theorem lT.weaken {ops:Array Oper} {idx:List Nat} {f cL:Nat→Value} {h:ae} {K:(Nat→Value)→ae→Prop} (hw:qX cL f) (hr:lT P N ops idx cL h K):lT P N ops idx f h K:=
 fun S B ρ a w R=>hr S B ρ a w (R.weaken hw)

theorem Y6 {ops:Array Oper}:∀{l:List hC} {os:List Oper} {i:Nat} {K:(Nat→Value)→ae→Prop} {f:Nat→Value} {h:ae},(∀(k:Nat) (o:Oper),os[k]?=some o→ops[i+k]?=some o)→jT P N ops os=some (nX none l)→yp P l K f h→
  lT P N ops (List.range' i os.length) f h K
 | [],os,i,K,f,h,_,hc,hi=>by
  cases os with
  | nil=>exact fun S B ρ a w R Q hq=>hq f h ρ a w hi R (Tr.refl R.heap)
  | cons o os=>obtain ⟨x,xs,_,_,he⟩:=su hc;simp [nX] at he
 | g::l,os,i,K,f,h,oh,hc,hi=>by
  cases os with
  | nil=>simp [jT,nX] at hc
  | cons o os=>
   obtain ⟨x,xs,h1,h2,he⟩:=su hc
   simp only [nX,List.map_cons,List.cons.injEq] at he
   obtain ⟨rfl,rfl⟩:=he
   obtain ⟨q1,q2,q3,q4,q5⟩:=AH h1
   have ho:ops[i]?=some o:=oh 0 o rfl
   have FN:∀(k:Nat) (o':Oper),os[k]?=some o'→ops[i+1+k]?=some o':=by
    intro k o' hk
    have:=oh (k+1) o' (by simpa using hk)
    rw [show i+(k+1)=i+1+k by omega] at this
    exact this
   intro S B ρ a w R Q hq
   rw [List.length_cons,List.range'_succ]
   simp only [wpOpsIn,ho]
   rw [if_pos (by rw [Cy q4 R trivial];rfl)]
   have dM:zL P g.op f h fun v h'=>yp P l K (db f g.dst v) h':=hi
   refine avj q3 q1 dM S B ρ a w R _ _ ?_
   intro v h' au v' w' hk hv H T
   have q5':g.dst=o.dst:=q5
   rw [q5'] at hk
   exact Y6 FN h2 hk S B au _ w' (R.rS q2 T hv H) Q fun AN aS kE pZ iW asK mG T'=>hq AN aS kE pZ iW asK mG (T.trans T')

theorem Yl {ls:List Nat} {c:dX} {K:Exit→(Nat→Value)→ae→Prop} {f:Nat→Value} {h:ae} (hi:j6 P (tU ls c) K f h):∃f',qX f' f∧j6 P c K f' h:=by
 cases ls with
 | nil=>exact ⟨f,fun _=>.inl rfl,hi⟩
 | cons l ls=>exact ⟨_,BZ f (l::ls),hi⟩

theorem ayU {ops:Array Oper}:∀{gs:List (Option (Nat×Bool)×List hC)} {hs:Hints} {os:List Oper} {i:Nat} {K:Exit→(Nat→Value)→ae→Prop} {f:Nat→Value} {h:ae},
  (∀(k:Nat) (o:Oper),os[k]?=some o→ops[i+k]?=some o)→jT P N ops os=some (lZ gs)→(∀g l,(g,l)∈gs→∀o∈l,leaves g o.dst=true)→j6 P (oJ gs hs).1 K f h→
  lT P N ops (List.range' i os.length) f h (K .normal):=by
 intro gs
 induction gs with
 | nil=>
  intro hs os i K f h oh hc _ hi
  cases os with
  | nil=>exact fun S B ρ a w R Q hq=>hq f h ρ a w hi R (Tr.refl R.heap)
  | cons o os=>
   obtain ⟨x,xs,_,_,he⟩:=su hc
   simp [lZ] at he
 | cons a gs ih=>
  obtain ⟨g,l⟩:=a
  intro hs os i K f h oh hc hl hi
  simp only [lZ] at hc
  obtain ⟨j9,fH,rfl,c0,c1⟩:=L6 hc
  have FO:∀(k:Nat) (o:Oper),j9[k]?=some o→ops[i+k]?=some o:=by
   intro k o hk
   refine oh k o ?_
   rw [List.getElem?_append_left (List.getElem?_eq_some_iff.1 hk).1]
   exact hk
  have NB:∀(k:Nat) (o:Oper),fH[k]?=some o→ops[i+j9.length+k]?=some o:=by
   intro k o hk
   rw [Nat.add_assoc]
   refine oh _ o ?_
   rw [List.getElem?_append_right (by omega)]
   simpa using hk
  have first:∀{K:(Nat→Value)→ae→Prop},Gy P g l K f h→lT P N ops (List.range' i j9.length) f h K:=by
   intro K hk
   cases g with
   | none=>exact Y6 FO c0 hk
   | some sb=>
    obtain ⟨f',h',r1,r2⟩:=F4 FO c0 (ady (fun o ho=>hl _ l (by simp) o ho) hk)
    exact r1.n r2
  have both:∀{Jy:(Nat→Value)→ae→Prop},lT P N ops (List.range' i j9.length) f h Jy→(∀cL h₁,Jy cL h₁→lT P N ops (List.range' (i+j9.length) fH.length) cL h₁ (K .normal))→lT P N ops (List.range' i (j9++fH).length) f h (K .normal):=by
   intro Jy a b
   rw [List.length_append,←List.range'_append_1]
   exact a.append b
  have rest:∀{hs:Hints} {cL:Nat→Value} {h₁:ae},j6 P (oJ gs hs).1 K cL h₁→lT P N ops (List.range' (i+j9.length) fH.length) cL h₁ (K .normal):=
   fun hk=>ih NB c1 (fun g' l' hm=>hl g' l' (by simp [hm])) hk
  cases gs with
  | nil=>
   have Bq:j6 P (.ops g l) K f h:=by
    cases hs <;> exact hi
   have r1:=first Bq
   have h1:fH=[]:=by
    cases fH with
    | nil=>rfl
    | cons o os=>obtain ⟨x,xs,_,_,he⟩:=su c1;simp [lZ] at he
   subst h1
   simpa using r1
  | cons b gs=>
   cases hs with
   | nil=>exact both (first (K:=fun f h=>j6 P (oJ (b::gs) []).1 K f h) hi) fun cL h₁ r2=>rest r2
   | cons h0 hs=>
    refine both (first (K:=fun f h=>j6 P (tU h0 (oJ (b::gs) hs).1) K f h) hi) fun cL h₁ r2=>?_
    obtain ⟨MF,hw,r3⟩:=Yl r2
    exact (rest r3).weaken hw

def vg (P:Program) (N B:Nat) (ρ:aF) (h:ae) (w:World) (K:ar):Exit→Act→World→Prop:=
 fun e a' w'=>∃f' h' au,K e f' h'∧Rel P N B au f' h' a' w'∧Tr ρ h w au h' w'

def tN (P:Program) (N:Nat) (out:Bool) (c:Code) (f:Nat→Value) (h:ae) (K:ar):Prop:=
 ∀S,(out=true→S=none)→∀B ρ a w,Rel P N B ρ f h a w→c.wpIn (FR S) 0 P (vg P N B ρ h w K) a w

def xR (P:Program) (N:Nat) (out:Bool) (c:Code) (f:Nat→Value) (h:ae) (K:ar):Prop:=
 ∀S,(out=true→S=none)→∀B ρ a w,Rel P N B ρ f h a w→oG S P c (vg P N B ρ h w K) a w

variable {out : Bool}

theorem fL.n {c:Code} {f f':Nat→Value} {h h':ae} {e:Exit} {K:ar} (r:fL P N out c f h e f' h') (hk:K e f' h'):tN P N out c f h K:=by
 intro S hS B ρ a w R
 refine wpIn_mono (r S hS B ρ a w R) ?_
 rintro e' a' w' ⟨rfl,au,R',T⟩
 exact ⟨f',h',au,hk,R',T⟩

theorem vg.trans {B:Nat} {ρ kY:aF} {h h₁:ae} {w mB:World} {K:ar} (T:Tr ρ h w kY h₁ mB):∀e' a' w',vg P N B kY h₁ mB K e' a' w'→vg P N B ρ h w K e' a' w':=by
 rintro e' a' w' ⟨f',h',au,hk,R,T'⟩
 exact ⟨f',h',au,hk,R,T.trans T'⟩

theorem tN.weaken {c:Code} {f cL:Nat→Value} {h:ae} {K:ar} (hw:qX cL f) (hr:tN P N out c cL h K):tN P N out c f h K:=
 fun S hS B ρ a w R=>hr S hS B ρ a w (R.weaken hw)

theorem xR.weaken {c:Code} {f cL:Nat→Value} {h:ae} {K:ar} (hw:qX cL f) (hr:xR P N out c cL h K):xR P N out c f h K:=
 fun S hS B ρ a w R=>hr S hS B ρ a w (R.weaken hw)

theorem atT {out:Bool}:∀{c:Code} {hs dw:Hints} {ic:dX},eD P N c hs=some (ic,dw)→(out=true∨gu c=true)→∀{K:ar} {f:Nat→Value} {h:ae},j6 P ic K f h→tN P N out c f h K:=by
 intro c
 induction c with
 | skip=>
  intro hs dw ic hc ho K f h hi
  simp [eD] at hc
  obtain ⟨rfl,_⟩:=hc
  exact fun S hS B ρ a w R=>wpIn_skip ⟨f,h,ρ,hi,R,Tr.refl R.heap⟩
 | region id ops draw=>
  intro hs dw ic hc ho K f h hi
  cases draw with
  | true=>
   simp only [eD] at hc
   split at hc
   ·rename_i l hl
    split at hc
    ·rename_i sN
     simp at hc
     obtain ⟨rfl,_⟩:=hc
     have fm:=Y0 (Yv sN) hi
     rw [EW] at fm
     obtain ⟨f',h',r1,r2⟩:=aaJ (id:=id) hl fm
     exact r1.n r2
    ·cases hc
   ·cases hc
  | false=>
   simp only [eD] at hc
   split at hc
   ·rename_i l hl
    split at hc
    ·rename_i sN
     simp only [Option.some.injEq] at hc
     have he:ic=(oJ (ru l) hs).1:=by rw [hc]
     subst he
     have r1:=ayU (i:=0) (os:=ops.toList) (ops:=ops) (fun k o hk=>by simpa using hk) (by rw [Fa];exact hl) (abb sN) hi
     intro S hS B ρ a w R
     refine wpIn_region ?_
     rw [List.range_eq_range']
     have r1':lT P N ops (List.range' 0 ops.size) f h (K .normal):=by simpa using r1
     refine r1' S B ρ a w R _ ?_
     intro f' h' au a' w' hk R' T
     exact ⟨f',h',au,hk,R',T⟩
    ·cases hc
   ·simp at hc
    obtain ⟨rfl,_⟩:=hc
    exact (show False from hi).elim
 | seq x y wR wT=>
  intro hs dw ic hc ho K f h hi
  have wA:out=true∨gu x=true:=ho.imp id fun h=>by simp only [gu,Bool.and_eq_true] at h;exact h.1
  have wB:out=true∨gu y=true:=ho.imp id fun h=>by simp only [gu,Bool.and_eq_true] at h;exact h.2
  have both:∀{a b:dX} {h0 ik iF:Hints} {ls:List Nat},eD P N x hs=some (a,h0)→eD P N y ik=some (b,iF)→j6 P (.seq a (tU ls b)) K f h→tN P N out (.seq x y) f h K:=by
   intro a b h0 ik iF ls ha hb hi
   have r1:=wR ha wA hi
   intro S hS B ρ ac w R
   refine wpIn_seq (wpIn_mono (r1 S hS B ρ ac w R) ?_)
   rintro e' a' w' ⟨cL,h₁,kY,hk,vi,T⟩
   cases e' with
   | normal=>
    obtain ⟨MF,hw,r3⟩:=Yl hk
    exact wpIn_mono (((wT hb wB r3).weaken hw) S hS B kY a' w' vi) (vg.trans T)
   | _=>exact ⟨cL,h₁,kY,hk,vi,T⟩
  simp only [eD] at hc
  split at hc
  ·rename_i a h0 ik ha
   split at hc
   ·rename_i b iF hb
    simp at hc
    obtain ⟨rfl,_⟩:=hc
    exact both ha hb hi
   ·cases hc
  ·rename_i a ha
   split at hc
   ·rename_i b iF hb
    simp at hc
    obtain ⟨rfl,_⟩:=hc
    exact both (ls:=[]) ha hb hi
   ·cases hc
  ·cases hc
 | cond c x y wR wT=>
  intro hs dw ic hc ho K f h hi
  have wA:out=true∨gu x=true:=ho.imp id fun h=>by simp only [gu,Bool.and_eq_true] at h;exact h.1
  have wB:out=true∨gu y=true:=ho.imp id fun h=>by simp only [gu,Bool.and_eq_true] at h;exact h.2
  simp only [eD] at hc
  split at hc
  ·rename_i aB
   split at hc
   ·rename_i a ik ha
    split at hc
    ·rename_i b iF hb
     simp at hc
     obtain ⟨rfl,_⟩:=hc
     have hi:nj (ev f c) (j6 P a K f h) (j6 P b K f h):=hi
     simp only [nj] at hi
     split at hi
     ·rename_i t ht
      have go:tN P N out (if t then x else y) f h K→tN P N out (.cond c x y) f h K:=by
       intro r S hS B ρ ac w R
       have:=R.ev aB
       rw [ht] at this
       exact wpIn_cond this.vC (r S hS B ρ ac w R)
      cases t
      ·simp at hi
       exact go (by simpa using wT hb wB hi)
      ·simp at hi
       exact go (by simpa using wR ha wA hi)
     ·exact hi.elim
    ·cases hc
   ·cases hc
  ·cases hc
 | block id c ih=>
  intro hs dw ic hc ho K f h hi
  simp only [eD] at hc
  split at hc
  ·rename_i a ik ha
   simp at hc
   obtain ⟨rfl,_⟩:=hc
   have r1:=ih ha (ho.imp (fun h=>h) fun h=>h) (K:=bz id K) hi
   intro S hS B ρ ac w R
   refine wpIn_block (wpIn_mono (r1 S hS B ρ ac w R) ?_)
   rintro e' a' w' ⟨f',h',au,hk,R',T⟩
   cases e' with
   | exit i=>
    simp only [Exit.inBlock,bz] at hk⊢
    split <;> rename_i h
    ·rw [if_pos h] at hk;exact ⟨f',h',au,hk,R',T⟩
    ·rw [if_neg h] at hk;exact ⟨f',h',au,hk,R',T⟩
   | _=>exact ⟨f',h',au,hk,R',T⟩
  ·cases hc
 | loop c ih=>
  intro hs dw ic hc ho K f h hi
  simp only [eD] at hc
  split at hc
  ·rename_i ks ls ik
   split at hc
   ·rename_i a iF ha
    simp at hc
    obtain ⟨rfl,_⟩:=hc
    obtain ⟨J,μ,h0,NO⟩:=hi
    have key:∀(n:Nat) (xs:List Value) (hh:ae),μ xs hh=n→J xs hh→xR P N out c (ji (ks++ls) (ks.map f++xs)) hh K:=by
     intro n
     induction n using Nat.strongRecOn with
     | _ n qG=>
      intro xs hh hn hJ
      have r1:=ih ha (ho.imp (fun h=>h) fun h=>h) (NO xs hh hJ)
      intro S hS B ρ ac w R
      refine oG.round (wpIn_mono (r1 S hS B ρ ac w R) ?_)
      rintro e' a' w' ⟨cL,h₁,kY,hk,vi,T⟩
      cases e' with
      | normal=>
       obtain ⟨hk,MW,aC⟩:=hk
       have s1:=qG (μ (ls.map cL) h₁) (by omega) (ls.map cL) h₁ rfl MW
       have s2:xR P N out c cL h₁ K:=s1.weaken (by rw [←hk];exact Gw cL ks ls _ rfl)
       exact (s2 S hS B kY a' w' vi).mono (vg.trans T)
      | _=>exact ⟨cL,h₁,kY,hk,vi,T⟩
    have s1:xR P N out c f h K:=(key _ (ls.map f) h rfl h0).weaken (Gw f ks ls _ rfl)
    exact fun S hS B ρ ac w R=>(s1 S hS B ρ ac w R).wp
   ·cases hc
  ·cases hc
 | exit id=>
  intro hs dw ic hc ho K f h hi
  simp [eD] at hc
  obtain ⟨rfl,_⟩:=hc
  exact fun S hS B ρ a w R=>wpIn_exit ⟨f,h,ρ,hi,R,Tr.refl R.heap⟩
 | ret=>
  intro hs dw ic hc ho K f h hi
  simp [eD] at hc
  obtain ⟨rfl,_⟩:=hc
  exact fun S hS B ρ a w R=>wpIn_ret ⟨f,h,ρ,hi,R,Tr.refl R.heap⟩
 | rangeFunc g ps jc body=>
  intro hs dw ic hc ho K f h hi
  have ho:out=true:=ho.resolve_right (by simp [gu])
  subst ho
  simp only [eD] at hc
  split at hc
  ·rename_i ls ik
   split at hc
   ·rename_i hk
    simp at hc
    obtain ⟨rfl,_⟩:=hc
    simp only [Bool.and_eq_true] at hk
    obtain ⟨h',r1,r2⟩:=ahm hk.1 hi
    exact r1.n r2
   ·cases hc
  ·cases hc
 | _=>intro hs dw ic hc;simp [eD] at hc

end

def Of (P:Program) (F:FuncId) (args:List Value) (h:ae) (K:Value→ae→Prop):Prop:=
 ∀(ρ:aF) (args':Array Value) (w:World),bn ρ args args'.toList→aT P ρ h w→
  Calls P F args' w fun e w'=>∃v h' v' au,K v h'∧e=.returned v'∧aw au v v'∧aT P au h' w'∧Tr ρ h w au h' w'

theorem atv {P:Program} {F:FuncId} {N:Nat} {ic:dX} {rs:List jo} {hs:Hints} {h:ae} (hc:bw P F hs=some (N,ic,rs)) {args:List Value} (ha:args.length≤N) {K:Value→ae→Prop}
  (hi:j6 P ic (Lf rs K) (bp args) h):Of P F args h K:=by
 unfold bw at hc
 split at hc
 ·rename_i fn hf
  split at hc
  ·rename_i c hb
   split at hc
   ·rename_i ic' _ Q1 h1 h2
    simp at hc
    obtain ⟨hN,rfl,rfl⟩:=hc
    have r1:=atT (out:=true) h1 (.inl rfl) hi
    intro ρ args' w hv H
    refine callsIn_wide.1 (callsIn_of_wp_marks (F:=Fence.wide) (n:=0) hf hb trivial ?_ rfl)
    have jJ:args'.size=args.length:=by have:=hv.length;simpa using this.symm
    have R:Rel P fn.ntmps w.heap.size ρ (bp args) h { tmps:=args'++Array.replicate (fn.ntmps-args'.size) Go.undef,defers:=[] } w:=⟨by simp;omega,Nat.le_refl _,YW hv fn.ntmps,H⟩
    refine wpIn_mono (r1 none (fun _=>rfl) _ ρ _ w R) ?_
    rintro e' a' w' ⟨f',h',au,hk,R',T⟩
    have qC:(e'=.normal∨e'=.ret)∧Hv Q1 K f' h':=by
     cases e' <;> first | exact ⟨.inl rfl,hk⟩ | exact ⟨.inr rfl,hk⟩ | exact hk.elim
    obtain ⟨he,qC⟩:=qC
    obtain ⟨vs,NZ,qC⟩:=Hw qC
    have key:LeavesInM Fence.wide 0 P fn a'.tmps (fun e w'=>∃v h' v' au,K v h'∧e=.returned v'∧aw au v v'∧aT P au h' w'∧Tr ρ h w au h' w') a'.defers .returning w':=by
     refine OC R'.defers R'.heap T ?_
     intro iW Ad rb
     have mG:Rel P fn.ntmps 0 au f' h' { a' with defers:=[] } iW:=⟨R'.size,Nat.zero_le _,R'.tmp,Ad⟩
     obtain ⟨v',q1,q2⟩:=ahF mG h2 NZ
     exact ⟨v',q1,pack vs,h',v',au,qC,rfl,q2,Ad,rb⟩
    rcases he with rfl | rfl
    ·exact key
    ·exact key
   ·cases hc
  ·cases hc
 ·cases hc

end Go.Sim

