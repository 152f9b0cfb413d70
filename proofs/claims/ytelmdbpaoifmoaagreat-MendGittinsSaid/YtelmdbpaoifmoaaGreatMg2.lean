/-
  Part 2 of the texts behind a statement of this seat: Sim15, Sim17, Sim18, Sim18b, Sim18c, Sim18d, Sim18e, Sim18f, Sim19, Sim19b, Sim16, Sim20, Sim21, Sim23, Sim24, Sim25, Sim26.
-/
import Derived.ProofKit
import Derived.OpenShut
import Derived.Test.YtelmdbpaoifmoaaGreatMg1
open Array (getElem?_toList replicate)
open Bool (and_eq_true or_eq_true)
open Classical (byContradiction choose_spec)
open List (all_eq_true cons_append getD getElem?_append_left getElem?_eq_getElem getElem?_eq_none getElem?_set_ne getElem?_set_self length_cons map_cons mem_cons mem_cons_of_mem mem_filter mem_map mem_of_getElem? mem_range nodup_cons range')
open Nat (add_zero le_of_not_lt le_refl zero_add)
open Option (bind_some getD_some map_eq_some_iff map_some)
namespace Go.Sim
section
section
variable {P : Program} {N : Nat}
def gU (P:Program) (N:Nat) (ops:Array Oper) (jQ:List Nat) (f:Nat→Value) (h:ae) (f':Nat→Value) (h':ae):Prop:=
 ∀S B ρ a w,ep P N B ρ f h a w→∀Q:Exit→Act→World→Prop,(∀av a' w',ep P N B av f' h' a' w'→Tr ρ h w av h' w'→Q .normal a' w')→wpOpsIn (FR S) 0 P ops Q jQ a w
theorem gU.nil {ops:Array Oper} {f:Nat→Value} {h:ae}:gU P N ops [] f h f h:=fun _ _ ρ a w R _ hq=>hq ρ a w R (Tr.refl R.heap)
theorem ep.ui {B:Nat} {ρ av:aK} {f:Nat→Value} {h h':ae} {a:Act} {w w':World} (R:ep P N B ρ f h a w) {d:Option Nat} (hd:d.all (·<N)=true) {v v':Value} (T:Tr ρ h w av h' w') (hv:ax av v v') (H:aZ P av h' w'):
  ep P N B av (dK f d v) h' (a.put d v') w':=by
 cases d with
 | none=>exact R.mono T H
 | some d=>exact R.put (by simpa using hd) T hv H
theorem gU.step {ops:Array Oper} {i:Nat} {jQ:List Nat} {o:Oper} {f f':Nat→Value} {h h₁ h':ae} {v:Value} (ho:ops[i]?=some o) (hd:o.dst.all (·<N)=true)
  (hw:∀B ρ a w,ep P N B ρ f h a w→Region.wanted o (yielded ops a.tmps)=true) (hs:F5 P N o f h v h₁) (hr:gU P N ops jQ (dK f o.dst v) h₁ f' h'):gU P N ops (i::jQ) f h f' h':=by
 intro S B ρ a w R Q hq
 simp only [wpOpsIn,ho]
 rw [if_pos (hw B ρ a w R)]
 refine hs S B ρ a w R _ _ ?_
 intro av v' w' hv H T
 exact hr S B av _ w' (R.ui hd T hv H) Q fun mG sm jV oH T'=>hq mG sm jV oH (T.trans T')
theorem gU.pass {ops:Array Oper} {i:Nat} {jQ:List Nat} {o:Oper} {f f':Nat→Value} {h h':ae} (ho:ops[i]?=some o) (hd:o.dst.all (·<N)=true)
  (hw:∀B ρ a w,ep P N B ρ f h a w→Region.wanted o (yielded ops a.tmps)=false) (hr:gU P N ops jQ (dK f o.dst undef) h f' h'):gU P N ops (i::jQ) f h f' h':=by
 intro S B ρ a w R Q hq
 simp only [wpOpsIn,ho]
 rw [if_neg (by rw [hw B ρ a w R];simp)]
 exact ⟨fun _ _=>trivial,hr S B ρ _ w (R.ui hd (Tr.refl R.heap) (ax.undef _) R.heap) Q hq⟩
def sw (g:Option (Nat×Bool)) (f:Nat→Value):Prop:=
 match g with
 | none=>True
 | some (s,_)=>vM (f s)=false
theorem aw8 {ρ:aK} {v v':Value} (h:ax ρ v v') (hb:vM v=false) (b:Bool):qH v' b=qH v b:=by
 cases h <;> first | rfl | simp [vM] at hb
theorem Im {v:Value} {b:Bool} {A B:Prop} (h:kA v b A B):vM v=false∧((qH v b=true∧A)∨(qH v b=false∧B)):=by
 unfold kA at h
 split at h
 ·rename_i c
  refine ⟨rfl,?_⟩
  split at h
  ·rename_i hc;exact .inl ⟨hc,h⟩
  ·rename_i hc;exact .inr ⟨by simpa [qH] using hc,h⟩
 ·exact h.elim
 ·rename_i x h1 h2
  have e1:vM v=false:=by
   cases v <;> first | rfl | exact absurd rfl (h2 _ _ _)
  have e2:qH v b=false:=by
   cases v <;> first | rfl | exact absurd rfl (h1 _)
  exact ⟨e1,.inr ⟨e2,h⟩⟩
theorem Fl {ops:Array Oper} {o:Oper} {g:Option (Nat×Bool)} (hg:HD N ops o.guard=some g) {B:Nat} {ρ:aK} {f:Nat→Value} {h:ae} {a:Act} {w:World} (R:ep P N B ρ f h a w) (hb:sw g f):
  Region.wanted o (yielded ops a.tmps)=iK g f:=by
 unfold HD at hg
 unfold Region.wanted
 cases kE:o.guard with
 | none=>rw [kE] at hg;simp at hg;subst hg;rfl
 | some jb=>
  obtain ⟨j,b⟩:=jb
  rw [kE] at hg
  simp only at hg⊢
  split at hg
  ·rename_i s hs
   split at hg
   ·rename_i aD
    simp at hg;subst hg
    simp only [iK]
    have hr:=R.tmp s
    have jw:s<a.tmps.size:=by rw [R.size];exact aD
    have bU:a.tmps[s]?=some (a.tmps.getD s Go.undef):=by simp [Array.getD,jw]
    rw [←aw8 hr hb b]
    unfold yielded
    rw [hs]
    simp only [bind_some,bU]
    generalize a.tmps.getD s Go.undef=u
    cases u <;> simp [qH]
   ·cases hg
  ·cases hg
def tm (f' f:Nat→Value):Prop:=∀t,f' t=f t∨f' t=Yt
theorem ep.weaken {B:Nat} {ρ:aK} {f f':Nat→Value} {h:ae} {a:Act} {w:World} (R:ep P N B ρ f h a w) (hw:tm f' f):ep P N B ρ f' h a w:=
 ⟨R.size,R.defers,fun t=>(hw t).elim (fun e=>by rw [e];exact R.tmp t) (fun e=>by rw [e];exact .any _),R.heap⟩
theorem EE (f:Nat→Value):∀ls:List Nat,tm (kj ls (ls.map f)) f
 | [],t=>.inr rfl
 | l::ls,t=>by
  simp only [map_cons,ayP]
  by_cases h:t=l
  ·subst h;simp
  ·rw [if_neg h];exact EE f ls t
theorem gU.weaken {ops:Array Oper} {jQ:List Nat} {f cV f':Nat→Value} {h h':ae} (hw:tm cV f) (hr:gU P N ops jQ cV h f' h'):gU P N ops jQ f h f' h':=
 fun S B ρ a w R=>hr S B ρ a w (R.weaken hw)
theorem gK.weaken {b:Bool} {c:Code} {f cV f':Nat→Value} {h h':ae} {e:Exit} (hw:tm cV f) (hr:gK P N b c cV h e f' h'):gK P N b c f h e f' h':=
 fun S hS B ρ a w R=>hr S hS B ρ a w (R.weaken hw)
theorem uA {S:Option Nat} {ops:Array Oper} {Q:Exit→Act→World→Prop}:∀{i j:List Nat} {a:Act} {w:World},wpOpsIn (FR S) 0 P ops (fun e a w=>match e with | .normal=>wpOpsIn (FR S) 0 P ops Q j a w | e=>Q e a w) i a w→wpOpsIn (FR S) 0 P ops Q (i++j) a w
 | [],j,a,w,h=>h
 | i::is,j,a,w,h=>by
  simp only [cons_append,wpOpsIn] at h⊢
  cases ho:ops[i]? with
  | none=>rw [ho] at h;exact uA h
  | some o=>
   rw [ho] at h
   simp only at h⊢
   split at h
   ·rename_i hw
    rw [if_pos hw]
    obtain ⟨h0,h⟩:=h
    refine ⟨h0,?_⟩
    generalize (o.semAt (FR S).round a.eval).run P w=r at h⊢
    cases r with
    | ok x w'=>
     cases x <;> simp only [Oper.uponIn] at h⊢
     ·exact uA h
     ·exact uA h
     ·refine ⟨h.1,h.2.mono ?_⟩
      rintro e jV hR
      cases e with
      | returned v=>exact uA hR
      | panicked chain=>exact hR
      | outgrown=>exact hR
     ·refine ⟨h.1,h.2.mono ?_⟩
      rintro e jV hR
      cases e with
      | returned v=>exact uA hR
      | panicked chain=>exact hR
      | outgrown=>exact hR
     ·exact uA h
     ·refine ⟨h.1,h.2.mono ?_⟩
      rintro v jV hR
      exact uA hR
    | halt x w'=>
     cases x <;> simp only [Oper.uponIn] at h⊢
     exact h
   ·rename_i hw
    rw [if_neg hw]
    exact ⟨h.1,uA h.2⟩
theorem gU.append {ops:Array Oper} {i j:List Nat} {f cV f':Nat→Value} {h h₁ h':ae} (a:gU P N ops i f h cV h₁) (b:gU P N ops j cV h₁ f' h'):gU P N ops (i++j) f h f' h':=by
 intro S B ρ ac w R Q hq
 refine uA (a S B ρ ac w R _ ?_)
 intro av a' w' R' T
 exact b S B av a' w' R' Q fun mG sm jV oH T'=>hq mG sm jV oH (T.trans T')
theorem Df {ops:Array Oper} {o:Oper} {x:iP} (h:yj P N ops o=some x):
  o.op.operands.all jy=true∧o.dst.all (·<N)=true∧uP P o.op=some x.op∧HD N ops o.guard=some x.guard∧x.dst=o.dst:=by
 unfold yj at h
 split at h
 ·rename_i hc
  simp only [and_eq_true] at hc
  split at h
  ·rename_i op g h1 h2
   simp at h;subst h
   exact ⟨hc.1,hc.2,h1,h2,rfl⟩
  ·cases h
 ·cases h
theorem uO {ops:Array Oper} {o:Oper} {os:List Oper} {l:List iP} (h:lE P N ops (o::os)=some l):∃x xs,yj P N ops o=some x∧lE P N ops os=some xs∧l=x::xs:=by
 simp only [lE] at h
 split at h
 ·rename_i x xs h1 h2
  simp at h
  exact ⟨x,xs,h1,h2,h.symm⟩
 ·cases h
theorem I4 {ops:Array Oper}:∀{os:List Oper} {l:List iP} {i:Nat} {K:(Nat→Value)→ae→Prop} {f:Nat→Value} {h:ae},(∀(k:Nat) (o:Oper),os[k]?=some o→ops[i+k]?=some o)→lE P N ops os=some l→sS P l K f h→
  ∃f' h',gU P N ops (range' i os.length) f h f' h'∧K f' h'
 | [],l,i,K,f,h,_,hc,hi=>by
  simp [lE] at hc
  subst hc
  exact ⟨f,h,gU.nil,hi⟩
 | o::os,l,i,K,f,h,qu,hc,hi=>by
  obtain ⟨x,xs,h1,h2,rfl⟩:=uO hc
  obtain ⟨q1,q2,q3,q4,q5⟩:=Df h1
  have ho:ops[i]?=some o:=qu 0 o rfl
  have IN:∀(k:Nat) (o':Oper),os[k]?=some o'→ops[i+1+k]?=some o':=by
   intro k o' hk
   have:=qu (k+1) o' (by simpa using hk)
   rw [show i+(k+1)=i+1+k by omega] at this
   exact this
  have go:∀(_:sw x.guard f) (_:iK x.guard f=true),dd P x.op f h (fun v h'=>sS P xs K (dK f x.dst v) h')→
    ∃f' h',gU P N ops (range' i (o::os).length) f h f' h'∧K f' h':=by
   intro hb hw hs
   obtain ⟨v,h',bD,hk⟩:=zT (N:=N) q3 q1 hs
   obtain ⟨Dp,aT,r1,r2⟩:=I4 IN h2 hk
   refine ⟨Dp,aT,?_,r2⟩
   rw [length_cons,List.range'_succ]
   rw [q5] at r1
   exact gU.step ho q2 (fun B ρ a w R=>by rw [Fl q4 R hb,hw]) bD r1
  have skip:∀(_:sw x.guard f) (_:iK x.guard f=false),sS P xs K (dK f x.dst undef) h→
    ∃f' h',gU P N ops (range' i (o::os).length) f h f' h'∧K f' h':=by
   intro hb hw hs
   obtain ⟨Dp,aT,r1,r2⟩:=I4 IN h2 hs
   refine ⟨Dp,aT,?_,r2⟩
   rw [length_cons,List.range'_succ]
   rw [q5] at r1
   exact gU.pass ho q2 (fun B ρ a w R=>by rw [Fl q4 R hb,hw]) r1
  simp only [sS] at hi
  split at hi
  ·rename_i kE
   exact go (by rw [kE];trivial) (by rw [kE];rfl) hi
  ·rename_i s b kE
   obtain ⟨e1,e2⟩:=Im hi
   rcases e2 with ⟨e2,e3⟩ | ⟨e2,e3⟩
   ·exact go (by rw [kE];exact e1) (by rw [kE];exact e2) e3
   ·exact skip (by rw [kE];exact e1) (by rw [kE];exact e2) e3
def qi (g:Option (Nat×Bool)) (l:List je):List iP:=l.map fun o=>⟨o.dst,o.op,g⟩
def nX:List (Option (Nat×Bool)×List je)→List iP
 | []=>[]
 | (g,l)::gs=>qi g l++nX gs
theorem H9:∀os:List iP,nX (tM os)=os
 | []=>rfl
 | o::os=>by
  have ih:=H9 os
  simp only [tM]
  cases hg:tM os with
  | nil=>
   rw [hg] at ih
   simp only [nX] at ih
   subst ih
   simp [nX,qi]
  | cons a gs=>
   obtain ⟨g,l⟩:=a
   rw [hg] at ih
   simp only
   split
   ·rename_i he
    simp only [nX,qi,map_cons,cons_append] at ih⊢
    rw [ih,←he]
   ·simp only [nX,qi,map_cons,List.map_nil,cons_append,List.nil_append] at ih⊢
    rw [ih]
theorem Qb {v:Value} {b:Bool} {A B:Prop} (hb:vM v=false) (hA:qH v b=true→A) (hB:qH v b=false→B):kA v b A B:=by
 unfold kA
 split
 ·split
  ·rename_i c hc;exact hA hc
  ·rename_i c hc;exact hB (by simpa [qH] using hc)
 ·simp [vM] at hb
 ·rename_i x h1 h2
  refine hB ?_
  cases v <;> first | rfl | exact absurd rfl (h1 _)
theorem ahz {g:Option (Nat×Bool)} {K:(Nat→Value)→ae→Prop}:∀{l:List je} {f:Nat→Value} {h:ae},(∀o∈l,leaves g o.dst=true)→ta P g l K f h→sS P (qi g l) K f h:=by
 intro l f h hl hk
 cases g with
 | none=>
  simp only [ta] at hk
  clear hl
  induction l generalizing f h with
  | nil=>exact hk
  | cons o l ih=>
   simp only [wV] at hk
   simp only [qi,map_cons,sS]
   have:dd P o.op f h (fun v h'=>sS P (qi none l) K (dK f o.dst v) h'):=by
    have mono:∀{io:gT} {K K':Value→ae→Prop},(∀v h,K v h→K' v h)→dd P io f h K→dd P io f h K':=by
     intro io K K' hm hs
     cases io with
     | p po=>simp only [dd,fG] at hs⊢;split at hs <;> first | exact hm _ _ hs | exact hs.elim
     | l lo=>simp only [dd,fG] at hs⊢;split at hs <;> first | exact hm _ _ hs | exact hs.elim
     | e eo=>simp only [dd,nG] at hs⊢;split at hs <;> first | exact hm _ _ hs | exact hs.elim
     | call g args=>exact hs.mono hm
     | kS x args=>simp only [dd,tD] at hs⊢;split at hs <;> first | exact ⟨hs.1,hs.2.mono hm⟩ | exact hs.elim
    exact mono (fun v h' ca=>ih ca) hk
   exact this
 | some sb=>
  obtain ⟨s,b⟩:=sb
  simp only [ta] at hk
  obtain ⟨e1,e2⟩:=Im hk
  clear hk
  induction l generalizing f h with
  | nil=>
   rcases e2 with ⟨_,e⟩ | ⟨_,e⟩ <;> exact e
  | cons o l ih=>
   have hd:o.dst≠some s:=by simpa [leaves] using hl o (by simp)
   have hs:∀v,dK f o.dst v s=f s:=by
    intro v
    cases ho:o.dst with
    | none=>rfl
    | some d=>
     have:s≠d:=by rintro rfl;exact hd ho
     simp [dK,tj,this]
   simp only [qi,map_cons,sS]
   refine Qb e1 (fun hb=>?_) (fun hb=>?_)
   ·rcases e2 with ⟨_,e⟩ | ⟨e,_⟩
    ·simp only [wV] at e
     have mono:∀{io:gT} {K K':Value→ae→Prop},(∀v h,K v h→K' v h)→dd P io f h K→dd P io f h K':=by
      intro io K K' hm hs
      cases io with
      | p po=>simp only [dd,fG] at hs⊢;split at hs <;> first | exact hm _ _ hs | exact hs.elim
      | l lo=>simp only [dd,fG] at hs⊢;split at hs <;> first | exact hm _ _ hs | exact hs.elim
      | e eo=>simp only [dd,nG] at hs⊢;split at hs <;> first | exact hm _ _ hs | exact hs.elim
      | call g args=>exact hs.mono hm
      | kS x args=>simp only [dd,tD] at hs⊢;split at hs <;> first | exact ⟨hs.1,hs.2.mono hm⟩ | exact hs.elim
     refine mono (fun v h' ca=>?_) e
     exact ih (fun o' dO=>hl o' (by simp [dO])) (by rw [hs];exact e1) (.inl ⟨by rw [hs];exact hb,ca⟩)
    ·rw [hb] at e;cases e
   ·rcases e2 with ⟨e,_⟩ | ⟨_,e⟩
    ·rw [hb] at e;cases e
    ·exact ih (fun o' dO=>hl o' (by simp [dO])) (by rw [hs];exact e1) (.inr ⟨by rw [hs];exact hb,e⟩)
theorem Pf {ops:Array Oper}:∀{os:List Oper} {m0 m1:List iP},lE P N ops os=some (m0++m1)→∃lP gA,os=lP++gA∧lE P N ops lP=some m0∧lE P N ops gA=some m1
 | os,[],m1,h=>⟨[],os,rfl,rfl,h⟩
 | [],x::m0,m1,h=>by simp [lE] at h
 | o::os,x::m0,m1,h=>by
  obtain ⟨y,ys,h1,h2,he⟩:=uO h
  simp only [cons_append,List.cons.injEq] at he
  obtain ⟨rfl,rfl⟩:=he
  obtain ⟨lP,gA,rfl,e1,e2⟩:=Pf h2
  refine ⟨o::lP,gA,rfl,?_,e2⟩
  simp [lE,h1,e1]
theorem abR {ls:List Nat} {c:fa} {K:Exit→(Nat→Value)→ae→Prop} {f:Nat→Value} {h:ae} (hi:iV P (wM ls c) K f h):∃f',tm f' f∧iV P c K f' h:=by
 cases ls with
 | nil=>exact ⟨f,fun _=>.inl rfl,hi⟩
 | cons l ls=>exact ⟨_,EE f (l::ls),hi⟩
theorem aCz {ops:Array Oper}:∀{gs:List (Option (Nat×Bool)×List je)} {hs:Hints} {os:List Oper} {i:Nat} {K:Exit→(Nat→Value)→ae→Prop} {f:Nat→Value} {h:ae},
  (∀(k:Nat) (o:Oper),os[k]?=some o→ops[i+k]?=some o)→lE P N ops os=some (nX gs)→(∀g l,(g,l)∈gs→∀o∈l,leaves g o.dst=true)→iV P (qT gs hs).1 K f h→
  ∃f' h',gU P N ops (range' i os.length) f h f' h'∧K .normal f' h':=by
 intro gs
 induction gs with
 | nil=>
  intro hs os i K f h qu hc _ hi
  cases os with
  | nil=>exact ⟨f,h,gU.nil,hi⟩
  | cons o os=>
   obtain ⟨x,xs,_,_,he⟩:=uO hc
   simp [nX] at he
 | cons a gs ih=>
  obtain ⟨g,l⟩:=a
  intro hs os i K f h qu hc hl hi
  simp only [nX] at hc
  obtain ⟨lP,gA,rfl,c0,c1⟩:=Pf hc
  have IP:∀(k:Nat) (o:Oper),lP[k]?=some o→ops[i+k]?=some o:=by
   intro k o hk
   refine qu k o ?_
   rw [getElem?_append_left (bK hk).1]
   exact hk
  have QR:∀(k:Nat) (o:Oper),gA[k]?=some o→ops[i+lP.length+k]?=some o:=by
   intro k o hk
   rw [Nat.add_assoc]
   refine qu _ o ?_
   rw [List.getElem?_append_right (by omega)]
   simpa using hk
  have first:∀{K:(Nat→Value)→ae→Prop},ta P g l K f h→∃f' h',gU P N ops (range' i lP.length) f h f' h'∧K f' h':=by
   intro K hk
   exact I4 IP c0 (ahz (fun o ho=>hl g l (by simp) o ho) hk)
  have both:∀{cV:Nat→Value} {h₁:ae} {f':Nat→Value} {h':ae},gU P N ops (range' i lP.length) f h cV h₁→gU P N ops (range' (i+lP.length) gA.length) cV h₁ f' h'→gU P N ops (range' i (lP++gA).length) f h f' h':=by
   intro cV h₁ f' h' a b
   rw [List.length_append,←List.range'_append_1]
   exact a.append b
  have rest:∀{hs:Hints} {cV:Nat→Value} {h₁:ae},iV P (qT gs hs).1 K cV h₁→∃f' h',gU P N ops (range' (i+lP.length) gA.length) cV h₁ f' h'∧K .normal f' h':=
   fun hk=>ih QR c1 (fun g' l' hm=>hl g' l' (by simp [hm])) hk
  cases gs with
  | nil=>
   have DX:iV P (.ops g l) K f h:=by
    cases hs <;> exact hi
   obtain ⟨f',h',r1,r2⟩:=first DX
   have h1:gA=[]:=by
    cases gA with
    | nil=>rfl
    | cons o os=>obtain ⟨x,xs,_,_,he⟩:=uO c1;simp [nX] at he
   subst h1
   exact ⟨f',h',by simpa using r1,r2⟩
  | cons b gs=>
   cases hs with
   | nil=>
    obtain ⟨cV,h₁,r1,r2⟩:=first (K:=fun f h=>iV P (qT (b::gs) []).1 K f h) hi
    obtain ⟨f',h',s1,s2⟩:=rest r2
    exact ⟨f',h',both r1 s1,s2⟩
   | cons h0 hs=>
    obtain ⟨cV,h₁,r1,r2⟩:=first (K:=fun f h=>iV P (wM h0 (qT (b::gs) hs).1) K f h) hi
    obtain ⟨PV,hw,r3⟩:=abR r2
    obtain ⟨f',h',s1,s2⟩:=rest r3
    exact ⟨f',h',both r1 (s1.weaken hw),s2⟩
def qL (S:Option Nat) (P:Program) (c:Code) (Q:Exit→Act→World→Prop) (a:Act) (w:World):Prop:=
 ∀(b:Frame) (k:List Item) (cs:List Frame),b.roundOf=S→
  ∃e a' w',Q e a' w'∧ArrivesIn (Machine.fenced P (FR S)) P (lone (b.atR a (.code c:: .inLoop c::k)) cs w) b k cs e a' w'
theorem FR.room (S:Option Nat) (n:Nat):(FR S).room n:=fun _ h=>by cases h
theorem qL.wp {S:Option Nat} {c:Code} {Q:Exit→Act→World→Prop} {a:Act} {w:World} (h:qL S P c Q a w):(Code.loop c).wpIn (FR S) 0 P Q a w:=by
 intro b k cs kF hb hr
 obtain ⟨e,a',w',q,r⟩:=h b k cs kF
 exact ⟨e,a',w',q,.of_steps (.one (fenced_calm hb hr rfl) stepR_loop) r⟩
theorem qL.round {S:Option Nat} {c:Code} {Q:Exit→Act→World→Prop} {a:Act} {w:World} (h:c.wpIn (FR S) 0 P (Exit.then (qL S P c Q) Q) a w):qL S P c Q a w:=by
 intro b k cs kF
 have hb:(FR S).fn b.fn:=trivial
 have hr:(FR S).room (cs.length+1+0):=FR.room S _
 obtain ⟨e,ya,oB,hq,wX⟩:=h b (.inLoop c::k) cs kF hb hr
 cases e with
 | normal=>
  obtain ⟨auX,apX,K8,awh,avv⟩:=hq b k cs kF
  exact ⟨auX,apX,K8,awh,.of_steps (StepsIn.trans wX (.one (fenced_calm hb hr rfl) stepR_inLoop)) avv⟩
 | exit id=>exact ⟨_,ya,oB,hq,.pass (x:=.inLoop c) rfl (fun _ _=>.inl (by simp)) wX⟩
 | goto l=>exact ⟨_,ya,oB,hq,.pass (x:=.inLoop c) rfl (fun _ _=>.inl (by simp)) wX⟩
 | ret=>exact ⟨_,ya,oB,hq,.pass (x:=.inLoop c) rfl (fun _ _=>.inl (by simp)) wX⟩
 | panic ch=>exact ⟨_,ya,oB,hq,.pass (x:=.inLoop c) rfl (fun _ _=>.inl (by simp)) wX⟩
 | outgrown=>exact ⟨_,ya,oB,hq,.pass (x:=.inLoop c) rfl (fun _ _=>.inl (by simp)) wX⟩
theorem aeZ {l:List iP} (h:l.all (fun o=>leaves o.guard o.dst)=true):∀g m,(g,m)∈tM l→∀o∈m,leaves g o.dst=true:=by
 intro g m hm o ho
 have rA:(⟨o.dst,o.op,g⟩:iP)∈nX (tM l):=by
  generalize tM l=gs at hm
  induction gs with
  | nil=>simp at hm
  | cons a gs ih=>
   obtain ⟨g',m'⟩:=a
   simp only [nX,List.mem_append]
   rcases mem_cons.1 hm with he | hm
   ·cases he
    left
    simp only [qi,mem_map]
    exact ⟨o,ho,rfl⟩
   ·exact .inr (ih hm)
 rw [H9] at rA
 rw [all_eq_true] at h
 exact h _ rA
def p5 (P:Program) (N:Nat) (out:Bool) (c:Code) (f:Nat→Value) (h:ae) (e:Exit) (f':Nat→Value) (h':ae):Prop:=
 ∀S,(out=true→S=none)→∀B ρ a w,ep P N B ρ f h a w→qL S P c (xR P N B ρ h w e f' h') a w
theorem qL.mono {S:Option Nat} {c:Code} {Q Q':Exit→Act→World→Prop} {a:Act} {w:World} (h:qL S P c Q a w) (hq:∀e a w,Q e a w→Q' e a w):qL S P c Q' a w:=
 fun b k cs kF=>let ⟨e,a',w',q,r⟩:=h b k cs kF;⟨e,a',w',hq _ _ _ q,r⟩
theorem xR.trans {B:Nat} {ρ nj:aK} {h h₁ h':ae} {w oB:World} {e:Exit} {f':Nat→Value} (T:Tr ρ h w nj h₁ oB):∀e' a' w',xR P N B nj h₁ oB e f' h' e' a' w'→xR P N B ρ h w e f' h' e' a' w':=by
 rintro e' a' w' ⟨rfl,av,R,T'⟩
 exact ⟨rfl,av,R,T.trans T'⟩
variable {out : Bool}
theorem p5.next {c:Code} {f cV f':Nat→Value} {h h₁ h':ae} {e:Exit} (a:gK P N out c f h .normal cV h₁) (b:p5 P N out c cV h₁ e f' h'):p5 P N out c f h e f' h':=by
 intro S hS B ρ ac w R
 refine qL.round (wpIn_mono (a S hS B ρ ac w R) ?_)
 rintro e' a' w' ⟨rfl,av,R',T⟩
 exact (b S hS B av a' w' R').mono (xR.trans T)
theorem p5.leave {c:Code} {f f':Nat→Value} {h h':ae} {e:Exit} (he:e≠ .normal) (a:gK P N out c f h e f' h'):p5 P N out c f h e f' h':=by
 intro S hS B ρ ac w R
 refine qL.round (wpIn_mono (a S hS B ρ ac w R) ?_)
 rintro e' a' w' ⟨rfl,av,R',T⟩
 cases e' <;> first | exact absurd rfl he | exact ⟨rfl,av,R',T⟩
theorem p5.run {c:Code} {f f':Nat→Value} {h h':ae} {e:Exit} (a:p5 P N out c f h e f' h'):gK P N out (.loop c) f h e f' h':=fun S hS B ρ ac w R=>(a S hS B ρ ac w R).wp
theorem gK.seq {x y:Code} {f cV f':Nat→Value} {h h₁ h':ae} {e:Exit} (a:gK P N out x f h .normal cV h₁) (b:gK P N out y cV h₁ e f' h'):gK P N out (.seq x y) f h e f' h':=by
 intro S hS B ρ ac w R
 refine wpIn_seq (wpIn_mono (a S hS B ρ ac w R) ?_)
 rintro e' a' w' ⟨rfl,av,R',T⟩
 exact wpIn_mono (b S hS B av a' w' R') (xR.trans T)
theorem gK.aDm {x y:Code} {f f':Nat→Value} {h h':ae} {e:Exit} (he:e≠ .normal) (a:gK P N out x f h e f' h'):gK P N out (.seq x y) f h e f' h':=by
 intro S hS B ρ ac w R
 refine wpIn_seq (wpIn_mono (a S hS B ρ ac w R) ?_)
 rintro e' a' w' ⟨rfl,av,R',T⟩
 cases e' <;> first | exact absurd rfl he | exact ⟨rfl,av,R',T⟩
theorem gK.block {id:Nat} {c:Code} {f f':Nat→Value} {h h':ae} {e:Exit} (a:gK P N out c f h e f' h'):gK P N out (.block id c) f h (match e with | .exit i=>if i=id then .normal else .exit i | e=>e) f' h':=by
 intro S hS B ρ ac w R
 refine wpIn_block (wpIn_mono (a S hS B ρ ac w R) ?_)
 rintro e' a' w' ⟨rfl,av,R',T⟩
 cases e' with
 | exit i=>
  simp only [Exit.inBlock]
  split
  ·exact ⟨rfl,av,R',T⟩
  ·exact ⟨rfl,av,R',T⟩
 | _=>exact ⟨rfl,av,R',T⟩
theorem gK.cond {c:Operand} {x y:Code} {t:Bool} {f f':Nat→Value} {h h':ae} {e:Exit} (hc:jy c=true) (ht:ev f c=.bool t) (a:gK P N out (if t then x else y) f h e f' h'):gK P N out (.cond c x y) f h e f' h':=by
 intro S hS B ρ ac w R
 have:=R.ev hc
 rw [ht] at this
 exact wpIn_cond this.ye (a S hS B ρ ac w R)
theorem gK.region {id:Nat} {ops:Array Oper} {f f':Nat→Value} {h h':ae} (a:gU P N ops (List.range ops.size) f h f' h'):gK P N out (.region id ops false) f h .normal f' h':=by
 intro S hS B ρ ac w R
 refine wpIn_region (a S B ρ ac w R _ ?_)
 intro av a' w' R' T
 exact ⟨rfl,av,R',T⟩
theorem p5.weaken {c:Code} {f cV f':Nat→Value} {h h':ae} {e:Exit} (hw:tm cV f) (hr:p5 P N out c cV h e f' h'):p5 P N out c f h e f' h':=
 fun S hS B ρ a w R=>hr S hS B ρ a w (R.weaken hw)
end
end
section
inductive xW (ops:Array Oper):List Nat→List Nat→Prop
 | nil {S:List Nat}:(∀i,i<ops.size→i∈S)→xW ops S []
 | cons {S:List Nat} {i:Nat} {o:Oper} {l:List Nat}:ops[i]?=some o→i∉S→(∀e∈fz o,e∈S)→xW ops (i::S) l→xW ops S (i::l)
theorem Gg:∀{ops:List Oper} {i:Nat},yc ops i=true→∀(k:Nat) (o:Oper),ops[k]?=some o→∀e∈fz o,e<i+k
 | [],i,_,k,o,hk=>by simp at hk
 | x::ops,i,h,k,o,hk=>by
  simp only [yc,and_eq_true,all_eq_true,decide_eq_true_eq] at h
  cases k with
  | zero=>simp at hk;subst hk;exact h.1
  | succ k=>
   intro e he
   have:=Gg h.2 k o (by simpa using hk) e he
   omega
def ready (ops:Array Oper) (iy:Array Bool) (i:Nat):Bool:=
 !iy.getD i true&&((ops[i]?).map (·.after.all fun e=> !Region.binds .any e||iy.getD e.on false)).getD false
theorem avm (ops:Array Oper) (fuel t:Nat) (iy:Array Bool) (acc:List Nat):
  Region.linearise.go .any ops (fuel+1) t iy acc=
   match ((List.range ops.size).filter (ready ops iy))[t%((List.range ops.size).filter (ready ops iy)).length]? with
   | some i=>Region.linearise.go .any ops fuel (t / ((List.range ops.size).filter (ready ops iy)).length) (iy.setIfInBounds i true) (i::acc)
   | none=>acc.reverse:=by
 rw [Region.linearise.go]
 rfl
theorem alk {ops:Array Oper} {iy:Array Bool} {S:List Nat} (hl:iy.size=ops.size) (hS:∀i,i<ops.size→(iy.getD i false=true↔i∈S)) (hb:∀(k:Nat) (o:Oper),ops[k]?=some o→∀e∈fz o,e<k)
  {i:Nat} (hi:i<ops.size):ready ops iy i=true↔i∉S∧∀o,ops[i]?=some o→∀e∈fz o,e∈S:=by
 have ho:ops[i]?=some ops[i]:=by simp [hi]
 have e1:iy.getD i true=iy.getD i false:=by simp [Array.getD,hl,hi]
 unfold ready
 rw [e1,ho]
 simp only [map_some,getD_some,and_eq_true,Bool.not_eq_true',Option.some.injEq,forall_eq']
 have h1:iy.getD i false=false↔i∉S:=by
  rw [←hS i hi]
  cases iy.getD i false <;> simp
 rw [h1]
 refine and_congr_right fun _=>?_
 rw [Array.all_eq_true']
 constructor
 ·intro h e he
  have aD:=hb i _ ho e he
  unfold fz at he
  simp only [List.mem_filterMap] at he
  obtain ⟨x,hx,xq⟩:=he
  split at xq
  ·rename_i Bc
   simp at xq
   subst xq
   have:=h x (by simpa using hx)
   simp only [or_eq_true,Bool.not_eq_true',Bc] at this
   exact (hS _ (by omega)).1 (by simpa using this)
  ·cases xq
 ·intro h x hx
  cases Bc:Region.binds .any x with
  | false=>simp
  | true=>
   have hm:x.on∈fz ops[i]:=by
    unfold fz
    simp only [List.mem_filterMap]
    exact ⟨x,by simpa using hx,by simp [Bc]⟩
   have aD:=hb i _ ho _ hm
   simp [(hS x.on (by omega)).2 (h _ hm)]
theorem Ju:∀{l m:List Nat},l.Nodup→l ⊆ m→l.length≤m.length
 | [],m,_,_=>by simp
 | x::l,m,hd,hs=>by
  have hx:x∈m:=hs (by simp)
  rw [nodup_cons] at hd
  have h1:l ⊆ m.erase x:=by
   intro y hy
   have bp:y≠x:=by rintro rfl;exact hd.1 hy
   exact (List.mem_erase_of_ne bp).2 (hs (by simp [hy]))
  have h2:=Ju hd.2 h1
  rw [List.length_erase_of_mem hx] at h2
  have:0<m.length:=List.length_pos_of_mem hx
  simp
  omega
theorem atH {n:Nat} {S:List Nat} (hlen:S.length<n):∃i,i<n∧i∉S∧∀k,k<i→k∈S:=by
 have hex:∃i,i<n∧i∉S:=by
  apply byContradiction
  intro dG
  have fJ:∀i,i<n→i∈S:=fun i hi=>byContradiction fun h=>dG ⟨i,hi,h⟩
  have rF:List.range n ⊆ S:=fun i hi=>fJ i (mem_range.1 hi)
  have:=Ju (List.nodup_range (n:=n)) rF
  simp at this
  omega
 have key:∀m,(∃i,i<m∧i<n∧i∉S)→∃i,i<n∧i∉S∧∀k,k<i→k∈S:=by
  intro m
  induction m with
  | zero=>rintro ⟨i,h,_⟩;omega
  | succ m ih=>
   rintro ⟨i,h1,h2,h3⟩
   by_cases eD:∃i,i<m∧i<n∧i∉S
   ·exact ih eD
   ·have eR:i=m:=by
     by_cases e:i=m
     ·exact e
     ·exact absurd ⟨i,by omega,h2,h3⟩ eD
    subst eR
    refine ⟨i,h2,h3,fun k hk=>byContradiction fun DP=>eD ⟨k,hk,by omega,DP⟩⟩
 obtain ⟨i,h1,h2⟩:=hex
 exact key n ⟨i,h1,h1,h2⟩
theorem acJ {ops:Array Oper} (hb:∀(k:Nat) (o:Oper),ops[k]?=some o→∀e∈fz o,e<k):∀(fuel t:Nat) (iy:Array Bool) (acc:List Nat),iy.size=ops.size→
  (∀i,i<ops.size→(iy.getD i false=true↔i∈acc))→acc.Nodup→(∀i∈acc,i<ops.size)→acc.length+fuel=ops.size→
  ∃l,Region.linearise.go .any ops fuel t iy acc=acc.reverse++l∧xW ops acc l
 | 0,t,iy,acc,hl,hS,hd,aD,hf=>by
  refine ⟨[],by simp [Region.linearise.go],.nil ?_⟩
  intro i hi
  apply byContradiction
  intro h
  have rF:(i::acc) ⊆ List.range ops.size:=by
   intro x hx
   rcases mem_cons.1 hx with rfl | hx
   ·simpa using hi
   ·simpa using aD x hx
  have:=Ju (nodup_cons.2 ⟨h,hd⟩) rF
  simp at this
  omega
 | fuel+1,t,iy,acc,hl,hS,hd,aD,hf=>by
  rw [avm]
  obtain ⟨i0,Bo,avN,avM⟩:=atH (n:=ops.size) (S:=acc) (by omega)
  have sM:ready ops iy i0=true:=(alk hl hS hb Bo).2 ⟨avN,fun o ho e he=>avM e (hb i0 o ho e he)⟩
  have jm:0<((List.range ops.size).filter (ready ops iy)).length:=List.length_pos_of_mem (mem_filter.2 ⟨mem_range.2 Bo,sM⟩)
  have bU:∃i,((List.range ops.size).filter (ready ops iy))[t%((List.range ops.size).filter (ready ops iy)).length]?=some i:=⟨_,getElem?_eq_getElem (Nat.mod_lt _ jm)⟩
  obtain ⟨i,hi⟩:=bU
  rw [hi]
  have rA:=mem_of_getElem? hi
  simp only [mem_filter,mem_range] at rA
  obtain ⟨iS,awq⟩:=rA
  obtain ⟨vB,yJ⟩:=(alk hl hS hb iS).1 awq
  obtain ⟨l,h1,h2⟩:=acJ hb fuel (t / ((List.range ops.size).filter (ready ops iy)).length) (iy.setIfInBounds i true) (i::acc) (by simpa using hl) (by
   intro k hk
   by_cases e:k=i
   ·subst e;simp [Array.getD,hl,hk]
   ·have:(iy.setIfInBounds i true).getD k false=iy.getD k false:=by
     simp only [Array.getD_eq_getD_getElem?,Array.getElem?_setIfInBounds]
     rw [if_neg (Ne.symm e)]
    rw [this,hS k hk]
    simp [e]) (nodup_cons.2 ⟨vB,hd⟩) (by
   intro k hk
   rcases mem_cons.1 hk with rfl | hk
   ·exact iS
   ·exact aD k hk) (by simp;omega)
  refine ⟨i::l,by simp only [h1];simp,?_⟩
  exact .cons (o:=ops[i]) (by simp [iS]) vB (yJ _ (by simp [iS])) h2
theorem ae1 {ops:Array Oper} (hb:yc ops.toList 0=true) (t:Nat):xW ops [] (Region.linearise .any ops t):=by
 have kB:∀(k:Nat) (o:Oper),ops[k]?=some o→∀e∈fz o,e<k:=by
  intro k o hk e he
  have:=Gg hb k o (by simpa using hk) e he
  omega
 obtain ⟨l,h1,h2⟩:=acJ kB ops.size t (replicate ops.size false) [] (by simp) (by intro i hi;simp [Array.getD,hi]) .nil (by simp) (by simp)
 have:Region.linearise .any ops t=l:=by
  unfold Region.linearise
  rw [h1]
  simp
 rw [this]
 exact h2
end
section
theorem PD {f f':Nat→Value}:∀{l:List Operand},(∀t∈tmpsOf l,f t=f' t)→∀x∈l,ev f x=ev f' x
 | [],_,x,hx=>by simp at hx
 | y::l,h,x,hx=>by
  have h':∀t∈tmpsOf l,f t=f' t:=by
   intro t ht
   apply h
   cases y <;> simp [tmpsOf,ht]
  rcases mem_cons.1 hx with rfl | hx
  ·cases x with
   | tmp t=>exact h t (by simp [tmpsOf])
   | _=>rfl
  ·exact PD h' x hx
theorem Eu {g g':Operand→Value} {xs:List Operand} (h:∀x∈xs,g x=g' x):xs.map g=xs.map g':=List.map_congr_left h
theorem JA {g g':Operand→Value} {x:Option Operand} (h:∀y∈x.toList,g y=g' y):x.map g=x.map g':=by
 cases x with
 | none=>rfl
 | some y=>simp [h y (by simp)]
theorem Ka {g g':Operand→Value} {ps:List (Nat×Nat×Operand)} (h:∀x∈ps.map (·.2.2),g x=g' x):(ps.map fun (o,s,x)=>(o,s,g x))=ps.map fun (o,s,x)=>(o,s,g' x):=by
 apply List.map_congr_left
 rintro ⟨o,s,x⟩ hx
 simp [h x (by simp;exact ⟨o,s,hx⟩)]
theorem aw7 {o:p7} {g g':Operand→Value} (h:∀x∈o.hX,g x=g' x):jx o g=jx o g':=by
 cases o with
 | Ev mx xs=>
  simp only [jx]
  rw [Eu (xs:=xs) h]
 | KF x lo hi=>
  simp only [jx,p7.hX] at*
  rw [h x (by simp),JA (x:=lo) (fun y hy=>h y (by simp at hy⊢;exact .inr (.inl hy))),JA (x:=hi) (fun y hy=>h y (by simp at hy⊢;exact .inr (.inr hy)))]
 | KG e s x lo hi=>
  simp only [jx,p7.hX] at*
  rw [h x (by simp),JA (x:=lo) (fun y hy=>h y (by simp at hy⊢;exact .inr (.inl hy))),JA (x:=hi) (fun y hy=>h y (by simp at hy⊢;exact .inr (.inr hy)))]
 | fn f first captured=>
  simp only [jx,p7.hX] at*
  rw [Eu (xs:=first) (fun x hx=>h x (by simp [hx])),Eu (xs:=captured) (fun x hx=>h x (by simp [hx]))]
 | build zero parts=>
  simp only [jx]
  rw [Ka (ps:=parts) h]
 | _=>simp [p7.hX] at h;simp [jx,h]
theorem aw4 {o:pe} {g g':Operand→Value} (h:∀x∈o.hX,g x=g' x) (H:ae):fF o g H=fF o g' H:=by
 cases o <;> simp [pe.hX] at h <;> simp [fF,h]
theorem aw1 {o:pb} {g g':Operand→Value} (h:∀x∈o.hX,g x=g' x) (H:ae):fZ o g H=fZ o g' H:=by
 cases o with
 | nF e n zs ps=>
  simp only [fZ]
  rw [Ka (ps:=ps) h]
 | fl a=>
  cases a with
  | nF e n zs ps=>
   simp only [fZ]
   rw [Ka (ps:=ps) h]
  | _=>simp [pb.hX,mH.hX] at h;simp [fZ,h]
 | _=>simp [pb.hX] at h;simp [fZ,h]
theorem KL {P:Program} {io:gT} {f f':Nat→Value} {h:ae} {K:Value→ae→Prop} (hf:∀t∈tmpsOf io.hX,f t=f' t):dd P io f h K↔dd P io f' h K:=by
 have he:=PD hf
 cases io with
 | p o=>simp only [dd];rw [aw7 he]
 | l o=>simp only [dd];rw [aw4 he]
 | e o=>simp only [dd];rw [aw1 he]
 | call g args=>
  simp only [dd]
  rw [Eu (xs:=args) he]
 | kS x args=>simp only [dd];rw [he x (by simp [gT.hX]),Eu (xs:=args) (fun y hy=>he y (by simp [gT.hX,hy]))]
structure Trace (P:Program) (l:List cU) (j0:Nat) (F:Nat→Nat→Value) (H:Nat→ae) (V:Nat→Value):Prop where
 xH:∀k o,l[k]?=some o→F (j0+k+1)=dK (F (j0+k)) o.op.dst (V (j0+k))
 P7:∀k o,l[k]?=some o→sw o.op.guard (F (j0+k))
 yes:∀k o,l[k]?=some o→iK o.op.guard (F (j0+k))=true→dd P o.op.op (F (j0+k)) (H (j0+k)) fun v h'=>v=V (j0+k)∧h'=H (j0+k+1)
 no:∀k o,l[k]?=some o→iK o.op.guard (F (j0+k))=false→V (j0+k)=undef∧H (j0+k+1)=H (j0+k)
 T8:∀e oe k ok lo,l[e]?=some oe→oe.op.op.dJ=true→l[k]?=some ok→ok.op.op=.l lo→iK ok.op.guard (F (j0+k))=true→e<k→ok.pre.testBit (j0+e)=false→
  fF lo (ev (F (j0+k))) (H (j0+e))=some (V (j0+k))
 PU:∀k ok lo e oe,l[k]?=some ok→ok.op.op=.l lo→iK ok.op.guard (F (j0+k))=true→l[e]?=some oe→oe.op.op.dJ=true→k<e→oe.pre.testBit (j0+k)=false→
  fF lo (ev (F (j0+k))) (H (j0+e+1))=some (V (j0+k))
 flo:∀k ok a,l[k]?=some ok→ok.op.op=.e (.fl a)→iK ok.op.guard (F (j0+k))=true→∃u,dZ (H (j0+k+1)) (V (j0+k))=some u∧
  ∀e oe,l[e]?=some oe→oe.op.op.dJ=true→k<e→oe.pre.testBit (j0+k)=false→dZ (H (j0+e+1)) (V (j0+k))=some u
theorem Pb {pre:Nat} {lo:pe} {f:Nat→Value} {v:Value}:∀{hs:List (Nat×ae)},wK pre lo f v hs→∀e H,(e,H)∈hs→pre.testBit e=false→fF lo (ev f) H=some v
 | [],_,e,H,hm,_=>by simp at hm
 | (e',H')::r,h,e,H,hm,hp=>by
  simp only [wK] at h
  rcases mem_cons.1 hm with hq | hm
  ·cases hq
   rw [if_neg (by rw [hp];simp)] at h
   exact h.1
  ·split at h
   ·exact Pb h e H hm hp
   ·exact Pb h.2 e H hm hp
theorem Dd {pre:Nat} {H:ae}:∀{ls:eP},lC pre H ls→∀j lo f v,(j,lo,f,v)∈ls→pre.testBit j=false→fF lo (ev f) H=some v
 | [],_,j,lo,f,v,hm,_=>by simp at hm
 | (j',oY,f',v')::r,h,j,lo,f,v,hm,hp=>by
  simp only [lC] at h
  rcases mem_cons.1 hm with hq | hm
  ·cases hq
   rw [if_neg (by rw [hp];simp)] at h
   exact h.1
  ·split at h
   ·exact Dd h j lo f v hm hp
   ·exact Dd h.2 j lo f v hm hp
def CO (P:Program) (l:List cU) (j:Nat) (aN:List (Nat×ae)) (aI:eP) (K:(Nat→Value)→ae→Prop) (f:Nat→Value) (h:ae):Prop:=
 ∃F H V,F j=f∧H j=h∧K (F (j+l.length)) (H (j+l.length))∧Trace P l j F H V∧
  (∀e Hh,(e,Hh)∈aN→∀k ok lo,l[k]?=some ok→ok.op.op=.l lo→iK ok.op.guard (F (j+k))=true→ok.pre.testBit e=false→fF lo (ev (F (j+k))) Hh=some (V (j+k)))∧
  (∀i lo ff v,(i,lo,ff,v)∈aI→∀e oe,l[e]?=some oe→oe.op.op.dJ=true→oe.pre.testBit i=false→fF lo (ev ff) (H (j+e+1))=some v)
theorem RA {P:Program}:∀{l:List cU} {j:Nat} {aN:List (Nat×ae)} {aI:eP} {K:(Nat→Value)→ae→Prop} {f:Nat→Value} {h:ae},kW P l j aN aI K f h→CO P l j aN aI K f h
 | [],j,aN,aI,K,f,h,hi=>
  ⟨fun _=>f,fun _=>h,fun _=>undef,rfl,rfl,hi,⟨fun k o hk=>by simp at hk,fun k o hk=>by simp at hk,fun k o hk=>by simp at hk,fun k o hk=>by simp at hk,fun e oe k ok lo hk=>by simp at hk,fun k ok lo e oe hk=>by simp at hk,fun k ok a hk=>by simp at hk⟩,
   fun e Hh hm k ok lo hk=>by simp at hk,fun i lo ff v hm e oe hk=>by simp at hk⟩
 | o::os,j,aN,aI,K,f,h,hi=>by
  -- gR rest,and how gR first step is laid ahead of it
  have key:∀(v:Value) (h':ae) (pC:List (Nat×ae)) (oZ:eP),sw o.op.guard f→kW P os (j+1) pC oZ K (dK f o.op.dst v) h'→
    (∀p∈aN,p∈pC)→(∀p∈aI,p∈oZ)→(o.op.op.dJ=true→(j,h)∈pC)→(∀lo,o.op.op=.l lo→iK o.op.guard f=true→(j,lo,f,v)∈oZ)→
    (iK o.op.guard f=true→dd P o.op.op f h fun u g=>u=v∧g=h')→(iK o.op.guard f=false→v=undef∧h'=h)→
    (∀lo,o.op.op=.l lo→iK o.op.guard f=true→∀e Hh,(e,Hh)∈aN→o.pre.testBit e=false→fF lo (ev f) Hh=some v)→
    (o.op.op.dJ=true→∀i lo ff u,(i,lo,ff,u)∈aI→o.pre.testBit i=false→fF lo (ev ff) h'=some u)→
    (∀a,o.op.op=.e (.fl a)→iK o.op.guard f=true→∃u,dZ h' v=some u∧(j,.obj (.const v),f,u)∈oZ)→
    CO P (o::os) j aN aI K f h:=by
   intro v h' pC oZ kD Q5 hh hl hE hL hy hn hp hf sF
   obtain ⟨F,H,V,f1,f2,f3,T,fp,ff⟩:=RA Q5
   have JC:∀{α:Type} (x:α) (G:Nat→α),∃G2:Nat→α,G2 j=x∧(∀k,G2 (j+k+1)=G (j+1+k))∧∀k,G2 (j+(k+1))=G (j+1+k):=by
    intro α x G
    refine ⟨fun k=>if k=j then x else G k,by simp,fun k=>?_,fun k=>?_⟩
    ·show (if j+k+1=j then x else G (j+k+1))=_
     rw [if_neg (by omega)]
     congr 1
     omega
    ·show (if j+(k+1)=j then x else G (j+(k+1)))=_
     rw [if_neg (by omega)]
     congr 1
     omega
   obtain ⟨F2,uS,eF1,eF⟩:=JC f F
   obtain ⟨H2,HU,wP,eH⟩:=JC h H
   obtain ⟨V2,yn,eV1,eV⟩:=JC v V
   have auC:F2 (j+1)=F (j+1):=eF1 0
   have HV:H2 (j+1)=H (j+1):=wP 0
   refine ⟨F2,H2,V2,uS,HU,?_,?_,?_,?_⟩
   ·rw [length_cons,eF,eH]
    exact f3
   ·constructor
    ·intro k ok hk
     cases k with
     | zero=>
      simp at hk;subst hk
      simp only [add_zero]
      rw [auC,uS,yn]
      exact f1
     | succ k=>
      have:=T.xH k ok (by simpa using hk)
      rw [eF1,eF,eV,show j+1+(k+1)=j+1+k+1 by omega]
      exact this
    ·intro k ok hk
     cases k with
     | zero=>
      simp at hk;subst hk
      simp only [add_zero]
      rw [uS]
      exact kD
     | succ k=>
      rw [eF]
      exact T.P7 k ok (by simpa using hk)
    ·intro k ok hk hw
     cases k with
     | zero=>
      simp at hk;subst hk
      simp only [add_zero] at hw⊢
      rw [uS] at hw
      rw [HV,uS,HU,yn,f2]
      exact hy hw
     | succ k=>
      rw [eF] at hw
      rw [wP,eF,eH,eV,show j+1+(k+1)=j+1+k+1 by omega]
      exact T.yes k ok (by simpa using hk) hw
    ·intro k ok hk hw
     cases k with
     | zero=>
      simp at hk;subst hk
      simp only [add_zero] at hw⊢
      rw [uS] at hw
      rw [HV,HU,yn,f2]
      exact hn hw
     | succ k=>
      rw [eF] at hw
      rw [wP,eH,eV,show j+1+(k+1)=j+1+k+1 by omega]
      exact T.no k ok (by simpa using hk) hw
    ·intro e oe k ok lo he fS hk eD hw aD gY
     cases k with
     | zero=>omega
     | succ k=>
      rw [eF] at hw⊢
      rw [eV]
      cases e with
      | zero=>
       simp at he;subst he
       simp only [add_zero] at gY⊢
       rw [HU]
       exact fp j h (hE fS) k ok lo (by simpa using hk) eD hw gY
      | succ e=>
       rw [eH]
       rw [show j+(e+1)=j+1+e by omega] at gY
       exact T.T8 e oe k ok lo (by simpa using he) fS (by simpa using hk) eD hw (by omega) gY
    ·intro k ok lo e oe hk eD hw he fS aD gY
     cases e with
     | zero=>omega
     | succ e=>
      rw [wP,show j+1+(e+1)=j+1+e+1 by omega]
      cases k with
      | zero=>
       simp at hk;subst hk
       simp only [add_zero] at hw gY⊢
       rw [uS] at hw⊢
       rw [yn]
       exact ff j lo f v (hL lo eD hw) e oe (by simpa using he) fS gY
      | succ k=>
       rw [eF] at hw⊢
       rw [eV]
       rw [show j+(k+1)=j+1+k by omega] at gY
       exact T.PU k ok lo e oe (by simpa using hk) eD hw (by simpa using he) fS (by omega) gY
    ·intro k ok a hk c8 hw
     cases k with
     | zero=>
      simp at hk;subst hk
      simp only [add_zero] at hw⊢
      rw [uS] at hw
      obtain ⟨u,u1,u2⟩:=sF a c8 hw
      refine ⟨u,by rw [HV,yn,f2];exact u1,?_⟩
      intro e oe he fS aD gY
      cases e with
      | zero=>omega
      | succ e=>
       rw [wP,show j+1+(e+1)=j+1+e+1 by omega,yn]
       exact ff j (.obj (.const v)) f u u2 e oe (by simpa using he) fS gY
     | succ k=>
      rw [eF] at hw
      obtain ⟨u,u1,u2⟩:=T.flo k ok a (by simpa using hk) c8 hw
      refine ⟨u,by rw [wP,eV,show j+1+(k+1)=j+1+k+1 by omega];exact u1,?_⟩
      intro e oe he fS aD gY
      cases e with
      | zero=>omega
      | succ e=>
       rw [wP,show j+1+(e+1)=j+1+e+1 by omega,eV]
       rw [show j+(k+1)=j+1+k by omega] at gY
       exact u2 e oe (by simpa using he) fS (by omega) gY
   ·intro e Hh hm k ok lo hk eD hw gY
    cases k with
    | zero=>
     simp at hk;subst hk
     simp only [add_zero] at hw⊢
     rw [uS] at hw⊢
     rw [yn]
     exact hp lo eD hw e Hh hm gY
    | succ k=>
     rw [eF] at hw⊢
     rw [eV]
     exact fp e Hh (hh _ hm) k ok lo (by simpa using hk) eD hw gY
   ·intro i lo ff' u hm e oe he fS gY
    cases e with
    | zero=>
     simp at he;subst he
     simp only [add_zero]
     rw [HV,f2]
     exact hf fS i lo ff' u hm gY
    | succ e=>
     rw [wP,show j+1+(e+1)=j+1+e+1 by omega]
     exact ff i lo ff' u (hl _ hm) e oe (by simpa using he) fS gY
  have go:sw o.op.guard f→iK o.op.guard f=true→kT P o.op.op o.pre j aN aI f h (fun aN aI v h'=>kW P os (j+1) aN aI K (dK f o.op.dst v) h')→CO P (o::os) j aN aI K f h:=fun kD hw hd=>by
   have Pv:o.op.op.dJ=true→(∀a,o.op.op≠ .e (.fl a))→dd P o.op.op f h (fun v h'=>lC o.pre h' aI∧kW P os (j+1) (aN++[(j,h)]) aI K (dK f o.op.dst v) h')→CO P (o::os) j aN aI K f h:=fun hE rB hs=>by
    have yT:∀lo,o.op.op≠ .l lo:=by intro lo e;rw [e] at hE;cases hE
    have ex:∃v h',dd P o.op.op f h (fun u g=>u=v∧g=h')∧lC o.pre h' aI∧kW P os (j+1) (aN++[(j,h)]) aI K (dK f o.op.dst v) h':=by
     generalize o.op.op=io at hs⊢
     cases io with
     | p po=>
      simp only [dd,fG] at hs⊢
      split at hs
      ·exact ⟨_,_,⟨rfl,rfl⟩,hs⟩
      ·exact hs.elim
     | l lo=>
      simp only [dd,fG] at hs⊢
      split at hs
      ·exact ⟨_,_,⟨rfl,rfl⟩,hs⟩
      ·exact hs.elim
     | e eo=>
      simp only [dd,nG] at hs⊢
      split at hs
      ·exact ⟨_,_,⟨rfl,rfl⟩,hs⟩
      ·exact hs.elim
     | call g args=>
      obtain ⟨v,h',hc,hk⟩:=hs
      exact ⟨v,h',⟨v,h',hc,rfl,rfl⟩,hk⟩
     | kS x args=>
      simp only [dd,tD] at hs⊢
      split at hs
      ·obtain ⟨mQ,v,h',hc,hk⟩:=hs
       exact ⟨v,h',⟨mQ,v,h',hc,rfl,rfl⟩,hk⟩
      ·obtain ⟨mQ,v,h',hc,hk⟩:=hs
       exact ⟨v,h',⟨mQ,v,h',hc,rfl,rfl⟩,hk⟩
      ·exact hs.elim
    obtain ⟨v,h',s1,s2,s3⟩:=ex
    exact key v h' _ _ kD s3 (fun p hp=>by simp [hp]) (fun p hp=>hp) (fun _=>by simp) (fun lo e=>absurd e (yT lo)) (fun _=>s1) (fun hf=>by rw [hw] at hf;cases hf) (fun lo e=>absurd e (yT lo))
     (fun _ i lo ff u hm gY=>Dd s2 i lo ff u hm gY) (fun a e=>absurd e (rB a))
   cases c8:o.op.op with
   | p po=>
    rw [c8] at hd
    simp only [kT,fG] at hd
    split at hd
    ·rename_i v hv
     exact key v h _ _ kD hd (fun p hp=>hp) (fun p hp=>hp) (fun hE=>by rw [c8] at hE;cases hE) (fun lo e=>by rw [c8] at e;cases e) (fun _=>by rw [c8];simp [dd,fG,hv]) (fun hf=>by rw [hw] at hf;cases hf)
      (fun lo e=>by rw [c8] at e;cases e) (fun hE=>by rw [c8] at hE;cases hE) (fun a e=>by rw [c8] at e;cases e)
    ·exact hd.elim
   | l lo=>
    rw [c8] at hd
    simp only [kT,fG] at hd
    split at hd
    ·rename_i v hv
     exact key v h _ _ kD hd.2 (fun p hp=>hp) (fun p hp=>by simp [hp]) (fun hE=>by rw [c8] at hE;cases hE) (fun oY e _=>by rw [c8] at e;cases e;simp) (fun _=>by rw [c8];simp [dd,fG,hv]) (fun hf=>by rw [hw] at hf;cases hf)
      (fun oY e _ e' Hh hm gY=>by rw [c8] at e;cases e;exact Pb hd.1 e' Hh hm gY) (fun hE=>by rw [c8] at hE;cases hE) (fun a e=>by rw [c8] at e;cases e)
    ·exact hd.elim
   | e eo=>
    cases eo with
    | fl a=>
     rw [c8] at hd
     simp only [kT,nG] at hd
     split at hd
     ·rename_i v h' hv
      simp only [fG] at hd
      split at hd
      ·rename_i u hu
       exact key v h' _ _ kD hd.2 (fun p hp=>by simp [hp]) (fun p hp=>by simp [hp]) (fun _=>by simp) (fun lo e=>by rw [c8] at e;cases e) (fun _=>by rw [c8];simp [dd,nG,hv]) (fun hf=>by rw [hw] at hf;cases hf)
        (fun lo e=>by rw [c8] at e;cases e) (fun _ i lo ff u hm gY=>Dd hd.1 i lo ff u hm gY) (fun a' _ _=>⟨u,hu,by simp⟩)
      ·exact hd.elim
     ·exact hd.elim
    | _=>exact Pv (by rw [c8];rfl) (fun a e=>by rw [c8] at e;cases e) (by rw [c8] at hd⊢;exact hd)
   | call g args=>exact Pv (by rw [c8];rfl) (fun a e=>by rw [c8] at e;cases e) (by rw [c8] at hd⊢;exact hd)
   | kS x args=>exact Pv (by rw [c8];rfl) (fun a e=>by rw [c8] at e;cases e) (by rw [c8] at hd⊢;exact hd)
  have skip:sw o.op.guard f→iK o.op.guard f=false→wO o.op.op o.pre j aN aI h (fun aN aI v h'=>kW P os (j+1) aN aI K (dK f o.op.dst v) h')→CO P (o::os) j aN aI K f h:=fun kD hw hd=>by
   unfold wO at hd
   split at hd
   ·rename_i hE
    exact key undef h _ _ kD hd (fun p hp=>hp) (fun p hp=>hp) (fun fS=>by rw [hE] at fS;cases fS) (fun lo _ hf=>by rw [hw] at hf;cases hf) (fun hf=>by rw [hw] at hf;cases hf) (fun _=>⟨rfl,rfl⟩)
     (fun lo _ hf=>by rw [hw] at hf;cases hf) (fun fS=>by rw [hE] at fS;cases fS) (fun a _ hf=>by rw [hw] at hf;cases hf)
   ·rename_i hE
    exact key undef h _ _ kD hd.2 (fun p hp=>by simp [hp]) (fun p hp=>hp) (fun _=>by simp) (fun lo _ hf=>by rw [hw] at hf;cases hf) (fun hf=>by rw [hw] at hf;cases hf) (fun _=>⟨rfl,rfl⟩)
     (fun lo _ hf=>by rw [hw] at hf;cases hf) (fun _ i lo ff u hm gY=>Dd hd.1 i lo ff u hm gY) (fun a _ hf=>by rw [hw] at hf;cases hf)
  simp only [kW] at hi
  split at hi
  ·rename_i kE
   exact go (by rw [kE];trivial) (by rw [kE];rfl) hi
  ·rename_i s b kE
   obtain ⟨e1,e2⟩:=Im hi
   rcases e2 with ⟨e2,e3⟩ | ⟨e2,e3⟩
   ·exact go (by rw [kE];exact e1) (by rw [kE];exact e2) e3
   ·exact skip (by rw [kE];exact e1) (by rw [kE];exact e2) e3
def tH (g:Option (Nat×Bool)) (l:List j6):List cU:=l.map fun o=>⟨⟨o.dst,o.op,g⟩,o.pre⟩
def tI:List (Option (Nat×Bool)×List j6)→List cU
 | []=>[]
 | (g,l)::gs=>tH g l++tI gs
theorem HG:∀os:List cU,tI (wN os)=os
 | []=>rfl
 | o::os=>by
  have ih:=HG os
  simp only [wN]
  cases hg:wN os with
  | nil=>
   rw [hg] at ih
   simp only [tI] at ih
   subst ih
   simp [tI,tH]
  | cons a gs=>
   obtain ⟨g,l⟩:=a
   rw [hg] at ih
   simp only
   split
   ·rename_i he
    simp only [tI,tH,map_cons,cons_append] at ih⊢
    rw [ih,←he]
   ·simp only [tI,tH,map_cons,List.map_nil,cons_append,List.nil_append] at ih⊢
    rw [ih]
theorem ab2 {l:List cU} (h:l.all (fun o=>leaves o.op.guard o.op.dst)=true):∀g m,(g,m)∈wN l→∀o∈m,leaves g o.dst=true:=by
 intro g m hm o ho
 have rA:(⟨⟨o.dst,o.op,g⟩,o.pre⟩:cU)∈tI (wN l):=by
  generalize wN l=gs at hm
  induction gs with
  | nil=>simp at hm
  | cons a gs ih=>
   obtain ⟨g',m'⟩:=a
   simp only [tI,List.mem_append]
   rcases mem_cons.1 hm with he | hm
   ·cases he
    left
    simp only [tH,mem_map]
    exact ⟨o,ho,rfl⟩
   ·exact .inr (ih hm)
 rw [HG] at rA
 rw [all_eq_true] at h
 exact h _ rA
theorem ab8 {P:Program} {io:gT} {pre j:Nat} {aN:List (Nat×ae)} {aI:eP} {f:Nat→Value} {h:ae} {K K':List (Nat×ae)→eP→Value→ae→Prop} (hm:∀a b v h,K a b v h→K' a b v h)
  (hs:kT P io pre j aN aI f h K):kT P io pre j aN aI f h K':=by
 cases io with
 | p po=>simp only [kT,fG] at hs⊢;split at hs <;> first | exact hm _ _ _ _ hs | exact hs.elim
 | l lo=>simp only [kT,fG] at hs⊢;split at hs <;> first | exact ⟨hs.1,hm _ _ _ _ hs.2⟩ | exact hs.elim
 | e eo=>
  cases eo with
  | fl a=>
   simp only [kT,nG,fG] at hs⊢
   split at hs
   ·split at hs <;> first | exact ⟨hs.1,hm _ _ _ _ hs.2⟩ | exact hs.elim
   ·exact hs.elim
  | _=>simp only [kT,nG] at hs⊢;split at hs <;> first | exact ⟨hs.1,hm _ _ _ _ hs.2⟩ | exact hs.elim
 | call g args=>exact rN.mono hs fun v h hk=>⟨hk.1,hm _ _ _ _ hk.2⟩
 | kS x args=>simp only [kT,tD] at hs⊢;split at hs <;> first | exact ⟨hs.1,hs.2.mono fun v h hk=>⟨hk.1,hm _ _ _ _ hk.2⟩⟩ | exact hs.elim
theorem ab7 {io:gT} {pre j:Nat} {aN:List (Nat×ae)} {aI:eP} {h:ae} {K K':List (Nat×ae)→eP→Value→ae→Prop} (hm:∀a b v h,K a b v h→K' a b v h)
  (hs:wO io pre j aN aI h K):wO io pre j aN aI h K':=by
 unfold wO at hs⊢
 split at hs
 ·exact hm _ _ _ _ hs
 ·exact ⟨hs.1,hm _ _ _ _ hs.2⟩
theorem Vj {f:Nat→Value} {d:Option Nat} {s:Nat} (hd:d≠some s) (v:Value):dK f d v s=f s:=by
 cases ho:d with
 | none=>rfl
 | some x=>
  have:s≠x:=by rintro rfl;exact hd ho
  simp [dK,tj,this]
theorem acD {P:Program} {g:Option (Nat×Bool)} {r:List cU} {K:(Nat→Value)→ae→Prop}:∀{l:List j6} {j:Nat} {aN:List (Nat×ae)} {aI:eP} {f:Nat→Value} {h:ae},(∀o∈l,leaves g o.dst=true)→
  (∀s b,g=some (s,b)→vM (f s)=false∧qH (f s) b=true)→
  oN P l j aN aI (fun aN aI f h=>kW P r (j+l.length) aN aI K f h) f h→kW P (tH g l++r) j aN aI K f h:=by
 intro l
 induction l with
 | nil=>intro j aN aI f h _ _ hk;exact hk
 | cons o l ih=>
  intro j aN aI f h hl hg hk
  simp only [oN] at hk
  simp only [tH,map_cons,cons_append,kW]
  have step:kT P o.op o.pre j aN aI f h fun aN aI v h'=>kW P (tH g l++r) (j+1) aN aI K (dK f o.dst v) h':=by
   refine ab8 (fun a b v h' ca=>?_) hk
   refine ih (fun o' dO=>hl o' (by simp [dO])) ?_ ?_
   ·intro s bb hs
    have hd:o.dst≠some s:=by have:=hl o (by simp);rw [hs] at this;simpa [leaves] using this
    rw [Vj hd]
    exact hg s bb hs
   ·rw [length_cons] at ca
    rw [show j+1+l.length=j+(l.length+1) by omega]
    exact ca
  cases kE:g with
  | none=>rw [kE] at step;exact step
  | some sb=>
   obtain ⟨s,b⟩:=sb
   obtain ⟨e1,e2⟩:=hg s b kE
   rw [kE] at step
   exact Qb e1 (fun _=>step) (fun h=>by rw [e2] at h;cases h)
theorem avi {P:Program} {s:Nat} {b:Bool} {r:List cU} {K:(Nat→Value)→ae→Prop}:∀{l:List j6} {j:Nat} {aN:List (Nat×ae)} {aI:eP} {f:Nat→Value} {h:ae},(∀o∈l,leaves (some (s,b)) o.dst=true)→
  vM (f s)=false→qH (f s) b=false→
  uW l j aN aI (fun aN aI f h=>kW P r (j+l.length) aN aI K f h) f h→kW P (tH (some (s,b)) l++r) j aN aI K f h:=by
 intro l
 induction l with
 | nil=>intro j aN aI f h _ _ _ hk;exact hk
 | cons o l ih=>
  intro j aN aI f h hl e1 e2 hk
  simp only [uW] at hk
  simp only [tH,map_cons,cons_append,kW]
  refine Qb e1 (fun h=>by rw [e2] at h;cases h) (fun _=>?_)
  refine ab7 (fun a c v h' ca=>?_) hk
  have hd:o.dst≠some s:=by have:=hl o (by simp);simpa [leaves] using this
  refine ih (fun o' dO=>hl o' (by simp [dO])) (by rw [Vj hd];exact e1) (by rw [Vj hd];exact e2) ?_
  rw [length_cons] at ca
  rw [show j+1+l.length=j+(l.length+1) by omega]
  exact ca
theorem P0 {P:Program} {K K':List (Nat×ae)→eP→(Nat→Value)→ae→Prop} (hm:∀a b f h,K a b f h→K' a b f h):∀{l:List j6} {j:Nat} {aN:List (Nat×ae)} {aI:eP} {f:Nat→Value} {h:ae},
  oN P l j aN aI K f h→oN P l j aN aI K' f h
 | [],_,_,_,_,_,hk=>hm _ _ _ _ hk
 | _::_,_,_,_,_,_,hk=>ab8 (fun _ _ _ _ ca=>P0 hm ca) hk
theorem acE {K K':List (Nat×ae)→eP→(Nat→Value)→ae→Prop} (hm:∀a b f h,K a b f h→K' a b f h):∀{l:List j6} {j:Nat} {aN:List (Nat×ae)} {aI:eP} {f:Nat→Value} {h:ae},
  uW l j aN aI K f h→uW l j aN aI K' f h
 | [],_,_,_,_,_,hk=>hm _ _ _ _ hk
 | _::_,_,_,_,_,_,hk=>ab7 (fun _ _ _ _ ca=>acE hm ca) hk
theorem acC {P:Program} {K:(Nat→Value)→ae→Prop}:∀{gs:List (Option (Nat×Bool)×List j6)} {j:Nat} {aN:List (Nat×ae)} {aI:eP} {f:Nat→Value} {h:ae},(∀g l,(g,l)∈gs→∀o∈l,leaves g o.dst=true)→
  nY P gs j aN aI K f h→kW P (tI gs) j aN aI K f h:=by
 intro gs
 induction gs with
 | nil=>intro j aN aI f h _ hk;exact hk
 | cons a gs ih=>
  obtain ⟨g,l⟩:=a
  intro j aN aI f h hl hk
  have lH:∀g' l',(g',l')∈gs→∀o∈l',leaves g' o.dst=true:=fun g' l' hm=>hl g' l' (by simp [hm])
  simp only [tI]
  cases g with
  | none=>
   simp only [nY] at hk
   exact acD (hl none l (by simp)) (fun s b hs=>by cases hs) (P0 (fun a b f h ca=>ih lH ca) hk)
  | some sb=>
   obtain ⟨s,b⟩:=sb
   simp only [nY] at hk
   obtain ⟨e1,e2⟩:=Im hk
   rcases e2 with ⟨e2,e3⟩ | ⟨e2,e3⟩
   ·exact acD (hl _ l (by simp)) (fun s' b' hs=>by cases hs;exact ⟨e1,e2⟩) (P0 (fun a b f h ca=>ih lH ca) e3)
   ·exact avi (hl _ l (by simp)) e1 e2 (acE (fun a b f h ca=>ih lH ca) e3)
end
section
def eK (V:Nat→Value) (S:List Nat):List cU→Nat→(Nat→Value)→(Nat→Value)
 | [],_,f=>f
 | d::ds,i,f=>eK V S ds (i+1) (if S.contains i then dK f d.op.dst (V i) else f)
theorem wR {V:Nat→Value} {S S':List Nat} {t:Nat}:∀{l:List cU} {i:Nat} {f f':Nat→Value},(∀k d,l[k]?=some d→d.op.dst=some t→(i+k∈S↔i+k∈S'))→f t=f' t→eK V S l i f t=eK V S' l i f' t
 | [],i,f,f',_,hf=>hf
 | d::ds,i,f,f',h,hf=>by
  simp only [eK]
  refine wR (fun k d' hk hd=>?_) ?_
  ·have:=h (k+1) d' (by simpa using hk) hd
   rw [show i+(k+1)=i+1+k by omega] at this
   exact this
  ·by_cases hd:d.op.dst=some t
   ·have:=h 0 d rfl hd
    simp only [add_zero] at this
    by_cases hi:i∈S
    ·simp [hi,this.1 hi,hd,dK,tj]
    ·have ik:i∉S':=fun h=>hi (this.2 h)
     simp [hi,ik,hf]
   ·have bp:∀v g,dK g d.op.dst v t=g t:=by
     intro v g
     cases wZ:d.op.dst with
     | none=>rfl
     | some x=>
      have:t≠x:=by rintro rfl;exact hd wZ
      simp [dK,tj,this]
    split <;> split <;> simp [bp,hf]
theorem PT {V:Nat→Value} {S:List Nat} {t:Nat}:∀{l:List cU} {i:Nat} {f:Nat→Value} {k:Nat} {d:cU},l[k]?=some d→d.op.dst=some t→i+k∈S→
  (∀k' d',l[k']?=some d'→d'.op.dst=some t→k<k'→i+k'∉S)→eK V S l i f t=V (i+k)
 | [],i,f,k,d,hk,_,_,_=>by simp at hk
 | d0::ds,i,f,k,d,hk,hd,hS,Bq=>by
  simp only [eK]
  cases k with
  | zero=>
   simp at hk;subst hk
   simp only [add_zero] at hS⊢
   have:eK V S ds (i+1) (if S.contains i=true then dK f d0.op.dst (V i) else f) t=eK V [] ds (i+1) (if S.contains i=true then dK f d0.op.dst (V i) else f) t:=by
    refine wR (fun k' d' ca ny=>?_) rfl
    have:=Bq (k'+1) d' (by simpa using ca) ny (by omega)
    rw [show i+(k'+1)=i+1+k' by omega] at this
    simp [this]
   rw [this]
   have DU:∀(l:List cU) (i:Nat) (f:Nat→Value),eK V [] l i f=f:=by
    intro l
    induction l with
    | nil=>intro i f;rfl
    | cons a l ih=>intro i f;simp [eK,ih]
   rw [DU]
   simp [hS,hd,dK,tj]
  | succ k=>
   have:=PT (V:=V) (S:=S) (l:=ds) (i:=i+1) (f:=if S.contains i=true then dK f d0.op.dst (V i) else f) (k:=k) (d:=d) (by simpa using hk) hd (by rw [show i+1+k=i+(k+1) by omega];exact hS) (by
    intro k' d' ca ny aD
    have:=Bq (k'+1) d' (by simpa using ca) ny (by omega)
    rw [show i+(k'+1)=i+1+k' by omega] at this
    exact this)
   rw [this]
   congr 1
   omega
theorem Dw {P:Program} {l:List cU} {F:Nat→Nat→Value} {H:Nat→ae} {V:Nat→Value} (T:Trace P l 0 F H V):∀(r:List cU) (i:Nat) (S:List Nat) (j:Nat),(∀k,r[k]?=l[i+k]?)→(∀k,k∈S↔k<j)→i≤j→j≤i+r.length→
  eK V S r i (F i)=F j
 | [],i,S,j,_,_,h1,h2=>by
  simp at h2
  obtain rfl:i=j:=by omega
  rfl
 | d::r,i,S,j,hr,hS,h1,h2=>by
  simp only [eK]
  have h0:=hr 0
  simp only [List.getElem?_cons_zero,add_zero] at h0
  have hu:=T.xH i d h0.symm
  simp only [zero_add] at hu
  by_cases eC:i<j
  ·have:i∈S:=(hS i).2 eC
   simp only [List.contains_eq_mem,this,decide_true,if_true]
   rw [←hu]
   exact Dw T r (i+1) S j (fun k=>by have:=hr (k+1);rw [show i+(k+1)=i+1+k by omega] at this;simpa using this) hS (by omega) (by simp at h2;omega)
  ·obtain rfl:i=j:=by omega
   have hni:i∉S:=fun h=>by have:=(hS i).1 h;omega
   simp only [List.contains_eq_mem,hni,decide_false,Bool.false_eq_true,if_false]
   have awC:∀(r:List cU) (k:Nat) (f:Nat→Value),i≤k→eK V S r k f=f:=by
    intro r
    induction r with
    | nil=>intro k f _;rfl
    | cons a r ih=>
     intro k f hk
     have:k∉S:=fun h=>by have:=(hS k).1 h;omega
     simp [eK,this,ih (k+1) f (by omega)]
   exact awC r (i+1) _ (by omega)
def CA (es:List (List Nat)) (S:List Nat):Prop:=∀j e,j∈S→e∈(es.getD j [])→e∈S
theorem akn {pS:List Nat}:∀{es:List Nat} {i:Nat},(vX pS es).testBit i=true→∃e∈es,i=e∨(pS.getD e 0).testBit i=true
 | [],i,h=>by simp [vX] at h
 | e::es,i,h=>by
  simp only [vX,Nat.testBit_or,or_eq_true] at h
  rcases h with (h | h) | h
  ·refine ⟨e,by simp,.inl ?_⟩
   rw [Nat.testBit_two_pow] at h
   exact (by simpa using h:e=i).symm
  ·exact ⟨e,by simp,.inr h⟩
  ·obtain ⟨e',h1,h2⟩:=akn h
   exact ⟨e',by simp [h1],h2⟩
theorem atk:∀{es:List (List Nat)} {acc:List Nat} {all:List (List Nat)},(∀k,es[k]?=all[acc.length+k]?)→(∀j i,j<acc.length→(acc.getD j 0).testBit i=true→∃e∈all.getD j [],i=e∨((jB es acc).getD e 0).testBit i=true)→
  (∀j i,((jB es acc).getD j 0).testBit i=true→∃e∈all.getD j [],i=e∨((jB es acc).getD e 0).testBit i=true):=by
 intro es
 induction es with
 | nil=>
  intro acc all _ DE j i h
  simp only [jB] at h⊢DE
  by_cases hj:j<acc.length
  ·exact DE j i hj h
  ·have:acc.getD j 0=0:=by simp [getD,le_of_not_lt hj]
   rw [this] at h
   simp at h
 | cons e0 es ih=>
  intro acc all fJ DE j i h
  simp only [jB] at h⊢DE
  have dY:∀(es:List (List Nat)) (acc:List Nat) (k:Nat),k<acc.length→(jB es acc).getD k 0=acc.getD k 0:=by
   intro es
   induction es with
   | nil=>intro acc k _;rfl
   | cons a es ih'=>
    intro acc k hk
    simp only [jB]
    rw [ih' _ k (by simp;omega)]
    simp [getD,getElem?_append_left hk]
  refine ih (acc:=acc++[vX acc e0]) (all:=all) ?_ ?_ j i h
  ·intro k
   have:=fJ (k+1)
   simp only [List.getElem?_cons_succ] at this
   rw [this]
   congr 1
   simp
   omega
  ·intro j' i' DM hb
   by_cases aD:j'<acc.length
   ·rw [show (acc++[vX acc e0]).getD j' 0=acc.getD j' 0 by simp [getD,getElem?_append_left aD]] at hb
    exact DE j' i' aD hb
   ·obtain rfl:j'=acc.length:=by simp at DM;omega
    rw [show (acc++[vX acc e0]).getD acc.length 0=vX acc e0 by simp [getD]] at hb
    obtain ⟨e,h1,h2⟩:=akn hb
    have h0:=fJ 0
    simp only [List.getElem?_cons_zero,add_zero] at h0
    refine ⟨e,by simp [getD,←h0,h1],?_⟩
    rcases h2 with h2 | h2
    ·exact .inl h2
    ·right
     have avE:e<acc.length:=by
      apply byContradiction
      intro cK
      have:acc.getD e 0=0:=by simp [getD,le_of_not_lt cK]
      rw [this] at h2
      simp at h2
     rw [dY _ _ _ (by simp;omega)]
     simpa [getD,getElem?_append_left avE] using h2
theorem Kg {es:List (List Nat)} {S:List Nat} (hS:CA es S) (yB:∀j e,e∈es.getD j []→e<j):∀(j i:Nat),(∀e∈es.getD j [],e∈S)→((jB es []).getD j 0).testBit i=true→i∈S:=by
 intro j
 induction j using Nat.strongRecOn with
 | _ j ih=>
  intro i he hb
  obtain ⟨e,h1,h2⟩:=atk (es:=es) (acc:=[]) (all:=es) (fun k=>by simp) (fun j i hj=>by simp at hj) j i hb
  rcases h2 with rfl | h2
  ·exact he _ h1
  ·exact ih e (yB j e h1) i (fun e' fK=>hS e e' (he e h1) fK) h2
end
section
section
variable {P : Program} {N : Nat}
theorem LA {l:List cU} {F:Nat→Nat→Value} {H:Nat→ae} {V:Nat→Value} (T:Trace P l 0 F H V) {i:Nat}:∀(d:Nat),i+d≤l.length→(∀e oe,l[e]?=some oe→oe.op.op.dJ=true→¬(i≤e∧e<i+d))→H (i+d)=H i
 | 0,_,_=>rfl
 | d+1,hl,hE=>by
  have ih:=LA T d (by omega) (fun e oe h1 h2 h3=>hE e oe h1 h2 ⟨h3.1,by omega⟩)
  have aD:i+d<l.length:=by omega
  have bU:l[i+d]?=some l[i+d]:=getElem?_eq_getElem aD
  have IK:l[i+d].op.op.dJ=false:=by
   cases hq:l[i+d].op.op.dJ with
   | false=>rfl
   | true=>exact absurd ⟨by omega,by omega⟩ (hE (i+d) _ bU hq)
  rw [show i+(d+1)=i+d+1 by omega]
  rw [←ih]
  have hy:=T.yes (i+d) _ bU
  have hn:=T.no (i+d) _ bU
  simp only [zero_add] at hy hn
  cases hw:iK l[i+d].op.guard (F (i+d)) with
  | false=>exact (hn hw).2
  | true=>
   have hs:=hy hw
   generalize l[i+d].op.op=io at hs IK
   cases io with
   | p po=>
    simp only [dd,fG] at hs
    split at hs
    ·exact hs.2.symm
    ·exact hs.elim
   | l lo=>
    simp only [dd,fG] at hs
    split at hs
    ·exact hs.2.symm
    ·exact hs.elim
   | e eo=>cases IK
   | call g args=>cases IK
   | kS x args=>cases IK
theorem q8 {l:List cU} {F:Nat→Nat→Value} {H:Nat→ae} {V:Nat→Value} (T:Trace P l 0 F H V) {i k:Nat} (pE:i≤k) (hk:k≤l.length) (hE:∀e oe,l[e]?=some oe→oe.op.op.dJ=true→¬(i≤e∧e<k)):H k=H i:=by
 have:=LA T (i:=i) (k-i) (by omega) (fun e oe h1 h2 h3=>hE e oe h1 h2 ⟨h3.1,by omega⟩)
 rw [show i+(k-i)=k by omega] at this
 exact this
def Mr (l:List cU) (S:List Nat) (m:Nat):Prop:=∀e oe,l[e]?=some oe→oe.op.op.dJ=true→(e∈S↔e<m)
theorem EZ {l:List cU} (h:J9 l=true) {i j:Nat} {oi oj:cU} (hi:l[i]?=some oi) (hj:l[j]?=some oj):B1 oj j oi i=true:=by
 unfold J9 at h
 rw [all_eq_true] at h
 have h1:=h (oj,j) (List.mem_zipIdx_iff_getElem?.2 hj)
 simp only at h1
 rw [all_eq_true] at h1
 exact h1 (oi,i) (List.mem_zipIdx_iff_getElem?.2 hi)
theorem akd {oi oj:cU} {i j t:Nat} (h:B1 oj j oi i=true) (bp:i≠j) (hd:oi.op.dst=some t) (ht:uw oj t=true):(if i<j then oj.pre.testBit i else oi.pre.testBit j)=true:=by
 unfold B1 at h
 rw [hd] at h
 simp only [and_eq_true,or_eq_true,beq_iff_eq,ht,Bool.not_true,Bool.false_eq_true,false_or] at h
 rcases h.1 with h | h
 ·exact absurd h bp
 ·exact h
theorem TZ {oi oj:cU} {i j:Nat} (h:B1 oj j oi i=true) (aD:i<j) (hi:oi.op.op.dJ=true) (hj:oj.op.op.dJ=true):oj.pre.testBit i=true:=by
 unfold B1 at h
 simp only [and_eq_true,aD,decide_true,hi,hj,Bool.and_self,Bool.not_true,Bool.false_or] at h
 exact h.2
theorem atP {ops:Array Oper} {l:List cU} {F:Nat→Nat→Value} {H:Nat→ae} {V:Nat→Value} (T:Trace P l 0 F H V) (hlen:l.length=ops.size)
  (avB:∀(k:Nat) (o:Oper) (d:cU),ops[k]?=some o→l[k]?=some d→yj P N ops o=some d.op)
  (gY:∀k d,l[k]?=some d→d.pre=(jB (ops.toList.map fz) []).getD k 0)
  (yB:∀j e,e∈(ops.toList.map fz).getD j []→e<j) (xd:J9 l=true) {S r:List Nat} (hv:xW ops S r):
  CA (ops.toList.map fz) S→(∀i∈S,i<ops.size)→∀m,m≤l.length→Mr l S m→∀S' B ρ a w,ep P N B ρ (eK V S l 0 (F 0)) (H m) a w→∀Q:Exit→Act→World→Prop,
   (∀av a' w',ep P N B av (F l.length) (H l.length) a' w'→Tr ρ (H m) w av (H l.length) w'→Q .normal a' w')→wpOpsIn (FR S') 0 P ops Q r a w:=by
 induction hv with
 | nil fJ=>
  rename_i S
  intro fT aD m hm bD S' B ρ a w R Q hq
  have hF:eK V S l 0 (F 0)=F l.length:=by
   have h1:=Dw T l 0 (List.range l.length) l.length (fun k=>by simp) (fun k=>by simp) (by omega) (by omega)
   rw [←h1]
   funext t
   refine wR (fun k d hk _=>?_) rfl
   have gr:=(bK hk).1
   simp only [zero_add,mem_range]
   exact ⟨fun _=>gr,fun _=>fJ k (by omega)⟩
  have hH:H l.length=H m:=by
   refine q8 T hm (le_refl _) ?_
   rintro e oe he hE ⟨h1,h2⟩
   have:=(bD e oe he hE).1 (fJ e (by omega))
   omega
  rw [hF] at R
  simp only [wpOpsIn]
  refine hq ρ a w (by rw [hH];exact R) ?_
  rw [hH]
  exact Tr.refl R.heap
 | cons vC vB yJ hvr ih=>
  rename_i S j o r
  intro fT aD m hm bD S' B ρ a w R Q hq
  have vh:j<ops.size:=(Array.getElem?_eq_some_iff.1 vC).1
  have bU:l[j]?=some (l[j]'(by omega)):=getElem?_eq_getElem _
  generalize hd0:l[j]'(by omega)=d at bU
  have hc:=avB j o d vC bU
  obtain ⟨q1,q2,q3,q4,q5⟩:=Df hc
  have iF:(ops.toList.map fz).getD j []=fz o:=by
   simp [getD,vC]
  have tO:CA (ops.toList.map fz) (j::S):=by
   intro k e hk he
   rcases mem_cons.1 hk with rfl | hk
   ·rw [iF] at he
    exact mem_cons_of_mem _ (yJ e he)
   ·exact mem_cons_of_mem _ (fT k e hk he)
  have before:∀i,d.pre.testBit i=true→i∈S:=by
   intro i hb
   rw [gY j d bU] at hb
   exact Kg fT yB j i (by rw [iF];exact yJ) hb
  have behind:∀k dk,l[k]?=some dk→dk.pre.testBit j=true→k∉S:=by
   intro k dk hk hb DP
   rw [gY k dk hk] at hb
   exact vB (Kg fT yB k j (fun e he=>fT k e DP he) hb)
  have slot:∀t,uw d t=true→eK V S l 0 (F 0) t=F j t:=by
   intro t ht
   have h1:=Dw T l 0 (List.range j) j (fun k=>by simp) (fun k=>by simp) (by omega) (by omega)
   rw [←h1]
   refine wR (fun k dk hk yH=>?_) rfl
   simp only [zero_add,mem_range]
   by_cases rz:k=j
   ·subst rz
    exact ⟨fun h=>absurd h vB,fun h=>absurd h (Nat.lt_irrefl _)⟩
   ·have hp:=akd (EZ xd hk bU) rz yH ht
    by_cases mS:k<j
    ·rw [if_pos mS] at hp
     exact ⟨fun _=>mS,fun _=>before k hp⟩
    ·rw [if_neg mS] at hp
     exact ⟨fun h=>absurd h (behind k dk hk hp),fun h=>absurd h mS⟩
  have yZ:∀t∈d.op.reads,eK V S l 0 (F 0) t=F j t:=fun t ht=>slot t (by simp [uw,ht])
  have Br:∀t∈tmpsOf d.op.op.hX,eK V S l 0 (F 0) t=F j t:=fun t ht=>yZ t (by simp [iP.reads,ht])
  have Eb:iK d.op.guard (eK V S l 0 (F 0))=iK d.op.guard (F j):=by
   cases hg:d.op.guard with
   | none=>rfl
   | some sb=>
    obtain ⟨s,b⟩:=sb
    simp only [iK]
    rw [yZ s (by simp [iP.reads,hg])]
  have Qy:sw d.op.guard (eK V S l 0 (F 0)):=by
   have:=T.P7 j d bU
   simp only [zero_add] at this
   cases hg:d.op.guard with
   | none=>trivial
   | some sb=>
    obtain ⟨s,b⟩:=sb
    rw [hg] at this
    simp only [sw] at this⊢
    rw [yZ s (by simp [iP.reads,hg])]
    exact this
  have Ec:=Fl q4 R Qy
  have jO:eK V (j::S) l 0 (F 0)=dK (eK V S l 0 (F 0)) o.dst (V j):=by
   rw [←q5]
   funext t
   by_cases mi:d.op.dst=some t
   ·have h1:=PT (V:=V) (S:=j::S) (l:=l) (i:=0) (f:=F 0) (k:=j) (d:=d) bU mi (by simp) (by
     intro k' d' ca ny mS
     have hp:=akd (EZ xd ca bU) (by omega) ny (by simp [uw,mi])
     rw [if_neg (by omega)] at hp
     have:=behind k' d' ca hp
     simp only [zero_add,mem_cons,not_or]
     exact ⟨by omega,this⟩)
    rw [h1]
    simp [mi,dK,tj]
   ·have h1:eK V (j::S) l 0 (F 0) t=eK V S l 0 (F 0) t:=by
     refine wR (fun k dk hk yH=>?_) rfl
     have rz:k≠j:=by
      rintro rfl
      rw [bU] at hk
      cases hk
      exact mi yH
     simp [rz]
    rw [h1]
    cases wZ:d.op.dst with
    | none=>rfl
    | some x=>
     have:t≠x:=by rintro rfl;exact mi wZ
     simp [dK,tj,this]
  have mm:∀i∈j::S,i<ops.size:=by
   intro i hi
   rcases mem_cons.1 hi with rfl | hi
   ·exact vh
   ·exact aD i hi
  -- gR Fe,where gR ayW writes memory
  have Ff:d.op.op.dJ=true→H m=H j∧Mr l (j::S) (j+1):=by
   intro hE
   have qt:m≤j:=by
    apply byContradiction
    intro h
    exact vB ((bD j d bU hE).2 (by omega))
   refine ⟨?_,?_⟩
   ·refine (q8 T qt (by omega) ?_).symm
    rintro e oe he mf ⟨h1,h2⟩
    have hb:=TZ (EZ xd he bU) h2 mf hE
    have:=(bD e oe he mf).1 (before e hb)
    omega
   ·intro e oe he mf
    rcases Nat.lt_trichotomy e j with mS | rfl | sG
    ·have hb:=TZ (EZ xd he bU) mS mf hE
     exact ⟨fun _=>by omega,fun _=>mem_cons_of_mem _ (before e hb)⟩
    ·exact ⟨fun _=>by omega,fun _=>by simp⟩
    ·have hb:=TZ (EZ xd bU he) sG hE mf
     have:=behind e oe he hb
     constructor
     ·intro h
      rcases mem_cons.1 h with h | h
      ·omega
      ·exact absurd h this
     ·intro h;omega
  have Cd:d.op.op.dJ=false→Mr l (j::S) m:=by
   intro hE e oe he mf
   have bp:e≠j:=by
    rintro rfl
    rw [bU] at he
    cases he
    rw [hE] at mf
    cases mf
   rw [←bD e oe he mf]
   simp [bp]
  have Ee:=T.yes j d bU
  have dG:=T.no j d bU
  simp only [zero_add] at Ee dG
  simp only [wpOpsIn,vC]
  by_cases hw:iK d.op.guard (F j)=true
  ·rw [if_pos (by rw [Ec,Eb,hw])]
   have hs:=Ee hw
   by_cases hE:d.op.op.dJ=true
   ·obtain ⟨e1,e2⟩:=Ff hE
    rw [←KL Br,←e1] at hs
    obtain ⟨v,h',st,hv,hh⟩:=zT (N:=N) q3 q1 hs
    subst hv
    subst hh
    refine st S' B ρ a w R _ _ ?_
    intro av v' w' vI HH TT
    have R':=R.ui q2 TT vI HH
    rw [←jO] at R'
    exact ih tO mm (j+1) (by omega) e2 S' B av _ w' R' Q fun mG sm jV oH tB=>hq mG sm jV oH (TT.trans tB)
   ·have fS:d.op.op.dJ=false:=by simpa using hE
    -- uz is looked at has one value at this Fe and in gR aFv order
    have dP:dd P d.op.op (eK V S l 0 (F 0)) (H m) fun v h'=>v=V j∧h'=H m:=by
     rw [KL Br]
     cases c8:d.op.op with
     | p po=>
      rw [c8] at hs
      simp only [dd,fG] at hs⊢
      split at hs
      ·exact ⟨hs.1,trivial⟩
      ·exact hs.elim
     | l lo=>
      have bT:fF lo (ev (F j)) (H m)=some (V j):=by
       have Bz:fF lo (ev (F j)) (H j)=some (V j):=by
        rw [c8] at hs
        simp only [dd,fG] at hs
        split at hs
        ·rename_i v hv
         rw [hv,hs.1]
        ·exact hs.elim
       rcases Nat.le_total m j with qt | qt
       ·by_cases hex:∃e oe,l[e]?=some oe∧oe.op.op.dJ=true∧m≤e∧e<j
        ·-- gR least of aDY
         have key:∀n,(∃e oe,l[e]?=some oe∧oe.op.op.dJ=true∧m≤e∧e<j∧e<n)→∃e oe,l[e]?=some oe∧oe.op.op.dJ=true∧m≤e∧e<j∧∀e' jq,l[e']?=some jq→jq.op.op.dJ=true→¬(m≤e'∧e'<e):=by
          intro n
          induction n with
          | zero=>rintro ⟨e,oe,_,_,_,_,h⟩;omega
          | succ n sR=>
           rintro ⟨e,oe,h1,h2,h3,h4,h5⟩
           by_cases eD:∃e oe,l[e]?=some oe∧oe.op.op.dJ=true∧m≤e∧e<j∧e<n
           ·exact sR eD
           ·refine ⟨e,oe,h1,h2,h3,h4,?_⟩
            rintro e' jq k1 k2 ⟨k3,k4⟩
            exact eD ⟨e',jq,k1,k2,k3,by omega,by omega⟩
         obtain ⟨e0,zS,g1,g2,g3,g4⟩:=hex
         obtain ⟨e,oe,h1,h2,h3,h4,h5⟩:=key j ⟨e0,zS,g1,g2,g3,g4,g4⟩
         have yx:H e=H m:=q8 T h3 (by omega) (fun e' jq k1 k2 k3=>h5 e' jq k1 k2 k3)
         rw [←yx]
         have vA:d.pre.testBit e=false:=by
          cases hb:d.pre.testBit e with
          | false=>rfl
          | true=>
           have:=(bD e oe h1 h2).1 (before e hb)
           omega
         have:=T.T8 e oe j d lo h1 h2 bU c8 (by simpa using hw) h4 (by simpa using vA)
         simpa using this
        ·have yy:H j=H m:=q8 T qt (by omega) (fun e oe h1 h2 h3=>hex ⟨e,oe,h1,h2,h3⟩)
         rw [←yy]
         exact Bz
       ·by_cases hex:∃e oe,l[e]?=some oe∧oe.op.op.dJ=true∧j≤e∧e<m
        ·have key:∀n,(∃e oe,l[e]?=some oe∧oe.op.op.dJ=true∧j≤e∧e<m∧m≤e+n)→∃e oe,l[e]?=some oe∧oe.op.op.dJ=true∧j≤e∧e<m∧∀e' jq,l[e']?=some jq→jq.op.op.dJ=true→¬(e+1≤e'∧e'<m):=by
          intro n
          induction n with
          | zero=>rintro ⟨e,oe,_,_,_,_,h⟩;omega
          | succ n sR=>
           rintro ⟨e,oe,h1,h2,h3,h4,h5⟩
           by_cases eD:∃e oe,l[e]?=some oe∧oe.op.op.dJ=true∧j≤e∧e<m∧m≤e+n
           ·exact sR eD
           ·refine ⟨e,oe,h1,h2,h3,h4,?_⟩
            rintro e' jq k1 k2 ⟨k3,k4⟩
            exact eD ⟨e',jq,k1,k2,by omega,by omega,by omega⟩
         obtain ⟨e0,zS,g1,g2,g3,g4⟩:=hex
         obtain ⟨e,oe,h1,h2,h3,h4,h5⟩:=key m ⟨e0,zS,g1,g2,g3,g4,by omega⟩
         have bp:e≠j:=by
          rintro rfl
          rw [bU] at h1
          cases h1
          rw [fS] at h2
          cases h2
         have yx:H m=H (e+1):=q8 T (by omega) hm (fun e' jq k1 k2 k3=>h5 e' jq k1 k2 k3)
         rw [yx]
         have vA:oe.pre.testBit j=false:=by
          cases hb:oe.pre.testBit j with
          | false=>rfl
          | true=>exact absurd ((bD e oe h1 h2).2 h4) (behind e oe h1 hb)
         have:=T.PU j d lo e oe bU c8 (by simpa using hw) h1 h2 (by omega) (by simpa using vA)
         simpa using this
        ·have yy:H m=H j:=q8 T qt hm (fun e oe h1 h2 h3=>hex ⟨e,oe,h1,h2,h3⟩)
         rw [yy]
         exact Bz
      simp [dd,fG,bT]
     | e eo=>rw [c8] at fS;cases fS
     | call g args=>rw [c8] at fS;cases fS
     | kS x args=>rw [c8] at fS;cases fS
    obtain ⟨v,h',st,hv,hh⟩:=zT (N:=N) q3 q1 dP
    subst hv
    subst hh
    refine st S' B ρ a w R _ _ ?_
    intro av v' w' vI HH TT
    have R':=R.ui q2 TT vI HH
    rw [←jO] at R'
    exact ih tO mm m hm (Cd fS) S' B av _ w' R' Q fun mG sm jV oH tB=>hq mG sm jV oH (TT.trans tB)
  ·have oV:iK d.op.guard (F j)=false:=by simpa using hw
   rw [if_neg (by rw [Ec,Eb,oV];simp)]
   obtain ⟨n1,n2⟩:=dG oV
   have R':=R.ui q2 (Tr.refl R.heap) (ax.undef _) R.heap
   rw [n1] at jO
   rw [←jO] at R'
   by_cases hE:d.op.op.dJ=true
   ·obtain ⟨e1,e2⟩:=Ff hE
    have e3:H (j+1)=H m:=by rw [n2,e1]
    exact ⟨fun _ _=>trivial,ih tO mm (j+1) (by omega) e2 S' B ρ _ w (by rw [e3];exact R') Q fun mG sm jV oH tB=>hq mG sm jV oH (by rw [e3] at tB;exact tB)⟩
   ·exact ⟨fun _ _=>trivial,ih tO mm m hm (Cd (by simpa using hE)) S' B ρ _ w R' Q hq⟩
theorem VI:∀{ios:List iP} {ps:List Nat},ios.length≤ps.length→(oD ios ps).length=ios.length∧∀(k:Nat) (d:cU),(oD ios ps)[k]?=some d→ios[k]?=some d.op∧d.pre=ps.getD k 0
 | [],ps,_=>⟨by simp [oD],fun k d h=>by simp [oD] at h⟩
 | o::ios,[],h=>by simp at h
 | o::ios,p::ps,h=>by
  obtain ⟨h1,h2⟩:=VI (ios:=ios) (ps:=ps) (by simpa using h)
  refine ⟨by simp [oD,h1],?_⟩
  intro k d hk
  cases k with
  | zero=>simp [oD] at hk;subst hk;simp
  | succ k=>
   simp only [oD,List.getElem?_cons_succ] at hk
   obtain ⟨a,b⟩:=h2 k d hk
   exact ⟨by simpa using a,by simpa [getD] using b⟩
theorem Hu:∀(es:List (List Nat)) (acc:List Nat),(jB es acc).length=acc.length+es.length
 | [],acc=>by simp [jB]
 | e::es,acc=>by simp only [jB];rw [Hu];simp;omega
theorem Pg {ops:Array Oper}:∀{os:List Oper} {l:List iP},lE P N ops os=some l→l.length=os.length∧∀(k:Nat) (o:Oper) (x:iP),os[k]?=some o→l[k]?=some x→yj P N ops o=some x
 | [],l,h=>by
  simp [lE] at h
  subst h
  exact ⟨rfl,fun k o x hk=>by simp at hk⟩
 | o::os,l,h=>by
  obtain ⟨x,xs,h1,h2,rfl⟩:=uO h
  obtain ⟨e1,e2⟩:=Pg h2
  refine ⟨by simp [e1],?_⟩
  intro k o' x' hk hx
  cases k with
  | zero=>simp at hk hx;subst hk;subst hx;exact h1
  | succ k=>exact e2 k o' x' (by simpa using hk) (by simpa using hx)
theorem awW {out:Bool} {id:Nat} {ops:Array Oper} {l:List cU} {K:(Nat→Value)→ae→Prop} {f:Nat→Value} {h:ae} (hc:Pd P N ops=some l) (hi:kW P l 0 [] [] K f h):
  ∃f' h',gK P N out (.region id ops true) f h .normal f' h'∧K f' h':=by
 unfold Pd at hc
 split at hc
 ·rename_i ios QD
  split at hc
  ·rename_i sE
   simp at hc
   simp only [and_eq_true] at sE
   obtain ⟨⟨DR,sC⟩,xd⟩:=sE
   rw [hc] at xd
   obtain ⟨g1,g2⟩:=Pg QD
   have QJ:ios.length≤(jB (ops.toList.map fz) []).length:=by rw [Hu];simp [g1]
   obtain ⟨z1,z2⟩:=VI QJ
   rw [hc] at z1 z2
   have hlen:l.length=ops.size:=by rw [z1,g1];simp
   obtain ⟨F,H,V,f1,f2,f3,T,_,_⟩:=RA hi
   simp only [zero_add] at f3
   refine ⟨F l.length,H l.length,?_,f3⟩
   ·intro S hS B ρ a w R
    refine wpIn_region_draw ?_
    intro t
    have Rd:Region.schedule (P.follows .mixedOrders) ops t=Region.linearise .any ops t:=by
     unfold Region.schedule
     rw [DR]
     simp
    rw [Rd]
    have bT:=ae1 sC t
    have yB:∀j e,e∈(ops.toList.map fz).getD j []→e<j:=by
     intro j e he
     by_cases hj:j<ops.size
     ·have hg:ops.toList[j]?=some ops[j]:=by simp [hj]
      have:(ops.toList.map fz).getD j []=fz ops[j]:=by simp [getD,hj]
      rw [this] at he
      have:=Gg sC j ops[j] hg e he
      omega
     ·have:(ops.toList.map fz).getD j []=[]:=by simp [getD,le_of_not_lt hj]
      rw [this] at he
      simp at he
    have DU:∀(l:List cU) (i:Nat) (f:Nat→Value),eK V [] l i f=f:=by
     intro l
     induction l with
     | nil=>intro i f;rfl
     | cons a l ih=>intro i f;simp [eK,ih]
    have R1:ep P N B ρ (eK V [] l 0 (F 0)) (H 0) a { w with drawn:=w.drawn+1 }:=by
     rw [DU,f1,f2]
     exact R.mono (Tr.drew R.heap _) (R.heap.drew _)
    refine atP T hlen ?_ ?_ yB xd bT (fun j e hj=>by simp at hj) (fun i hi=>by simp at hi) 0 (by omega) (fun e oe _ _=>by simp) S B ρ a _ R1 _ ?_
    ·intro k o d hk hd
     exact g2 k o d.op (by simpa using hk) (z2 k d hd).1
    ·intro k d hd
     exact (z2 k d hd).2
    ·intro av a' w' R' T'
     refine ⟨rfl,av,R',?_⟩
     have T0:=Tr.drew R.heap (w.drawn+1)
     rw [f2] at T'
     exact T0.trans T'
  ·cases hc
 ·cases hc
end
end
section
section
variable {P : Program} {w : World} {ρ : aK} {h : ae}
theorem aZ.alloc (H:aZ P ρ h w) (b:Obj):aZ P ρ h (w.alloc b)∧Tr ρ h w ρ h (w.alloc b):=by
 have nb:=jM.alloc w b
 refine ⟨⟨?_,H.inj,H.aX⟩,?_⟩
 ·intro i r hi
  obtain ⟨o,ho,hr⟩:=H.obj i r hi
  refine ⟨o,ho,?_⟩
  by_cases hd:o=.dead
  ·subst hd;trivial
  ·exact hr.mono (.refl _) (nb.old (BV H hi ⟨o,ho,hd⟩))
 ·exact {
   ext:=.refl _
   len:=le_refl _
   jC:=fun i r hi=>H.lt hi
   kinds:=fun i _ hm=>hm
   fresh:=fun i s h1 h2=>by rw [h1] at h2;cases h2
   iL:=by rw [nb.size];omega
   hY:=fun k hk _=>nb.old hk
   os:=nb.os
   tape:=nb.tape
   output:=nb.output }
theorem zZ {l k:Nat} {o:Obj} (hk:k≠l):(w.putObj l o).heap[k]?=w.heap[k]?:=World.putObj_heap_other hk
theorem aZ.put (H:aZ P ρ h w) {l:Nat} (dG:∀j s,ρ j=some s→s.bw=l→¬eX h j) (o:Obj):aZ P ρ h (w.putObj l o):=by
 refine ⟨?_,H.inj,H.aX⟩
 intro i r hi
 obtain ⟨o',ho,hr⟩:=H.obj i r hi
 refine ⟨o',ho,?_⟩
 by_cases hd:o'=.dead
 ·subst hd;trivial
 ·refine hr.mono (.refl _) (zZ ?_)
  intro e
  exact dG i r hi e ⟨o',ho,hd⟩
theorem aZ.aeF (H:aZ P ρ h w) {l:Nat} {rec:Loop} (hl:w.heap[l]?=some (.loop rec)) {j:Nat} {s:RI} (hj:ρ j=some s) (hs:s.bw=l) (hv:eX h j):∃c ls vs,h[j]?=some (.loop c ls vs):=by
 obtain ⟨o,ho,bp⟩:=hv
 obtain ⟨o',dO,hr⟩:=H.obj j s hj
 rw [ho] at dO
 cases dO
 subst hs
 cases o with
 | ro e xs=>obtain ⟨_,c,_,fr,h2,_⟩:=hr;rw [hl] at h2;cases h2
 | arr e xs=>obtain ⟨_,_,c,h2,_⟩:=hr;rw [hl] at h2;cases h2
 | smap es=>obtain ⟨aJ,clock,h1,_⟩:=hr;rw [hl] at h1;cases h1
 | kH kd es=>obtain ⟨aJ,clock,h1,_⟩:=hr;rw [hl] at h1;cases h1
 | cR g c es=>obtain ⟨_,aJ,h1,_⟩:=hr;rw [hl] at h1;cases h1
 | iter m s n l=>obtain ⟨_,rm,_,h1⟩:=hr;rw [hl] at h1;cases h1
 | loop c ls vs=>exact ⟨c,ls,vs,ho⟩
 | dead=>exact absurd rfl bp
theorem Tr.late {av:aK} {h':ae} {w':World} (T:Tr ρ h w av h' w') {l:Nat} (hl:w.heap.size≤l) (o:Obj) (i:Nat):Tr ρ h w av (h'.set i .dead) (w'.putObj l o) where
 ext:=T.ext
 len:=by simpa using T.len
 jC:=T.jC
 kinds:=by
  intro j hj hm
  refine T.kinds j hj ?_
  by_cases e:j=i
  ·subst e
   have aD:j<h'.length:=Nat.lt_of_lt_of_le hj T.len
   unfold cB at hm
   rw [getElem?_set_self aD] at hm
   rcases hm with ⟨_,_,h1⟩ | ⟨_,h1⟩ | ⟨_,_,_,h1⟩ | ⟨_,_,h1⟩ | ⟨_,_,_,h1⟩ | ⟨_,_,_,_,h1⟩ <;> cases h1
  ·unfold cB at hm⊢
   rw [getElem?_set_ne (Ne.symm e)] at hm
   exact hm
 fresh:=T.fresh
 iL:=by rw [World.putObj_size];exact T.iL
 hY:=fun k hk dG=>by rw [zZ (by omega)];exact T.hY k hk dG
 os:=T.os
 tape:=T.tape
 output:=T.output
theorem aZ.kill (H:aZ P ρ h w) (i:Nat):aZ P ρ (h.set i .dead) w:=by
 have hm:∀j,cB (h.set i .dead) j→cB h j:=by
  intro j hj
  by_cases e:j=i
  ·subst e
   unfold cB at hj
   by_cases aD:j<h.length
   ·rw [getElem?_set_self aD] at hj
    rcases hj with ⟨_,_,h1⟩ | ⟨_,h1⟩ | ⟨_,_,_,h1⟩ | ⟨_,_,h1⟩ | ⟨_,_,_,h1⟩ | ⟨_,_,_,_,h1⟩ <;> cases h1
   ·rw [getElem?_eq_none (by simpa using le_of_not_lt aD)] at hj
    rcases hj with ⟨_,_,h1⟩ | ⟨_,h1⟩ | ⟨_,_,_,h1⟩ | ⟨_,_,h1⟩ | ⟨_,_,_,h1⟩ | ⟨_,_,_,_,h1⟩ <;> cases h1
  ·unfold cB at hj⊢
   rw [getElem?_set_ne (Ne.symm e)] at hj
   exact hj
 have hl:∀j,eX (h.set i .dead) j→eX h j:=by
  intro j hj
  by_cases e:j=i
  ·subst e
   obtain ⟨o,ho,bp⟩:=hj
   by_cases aD:j<h.length
   ·rw [getElem?_set_self aD] at ho
    cases ho
    exact absurd rfl bp
   ·rw [getElem?_eq_none (by simpa using le_of_not_lt aD)] at ho
    cases ho
  ·unfold eX at hj⊢
   rw [getElem?_set_ne (Ne.symm e)] at hj
   exact hj
 refine ⟨?_,fun a b r s ha hb mU h1 h2=>H.inj a b r s ha hb mU (hm a h1) (hl b h2),H.aX⟩
 intro j r hj
 by_cases e:j=i
 ·subst e
  exact ⟨.dead,by rw [getElem?_set_self (H.lt hj)],trivial⟩
 ·obtain ⟨o,ho,hr⟩:=H.obj j r hj
  exact ⟨o,by rw [getElem?_set_ne (Ne.symm e)];exact ho,hr⟩
theorem aDk {g:FuncId} {first cap:Array Value} (mQ:qf P g=true) (a:Act) (gx:Operand) (hy:a.eval gx=.func (.func g) first cap) (l:Nat) (w:World):
  ∃d,(resolve a.eval (rangeCall gx l) 0).run P w=.ok d w∧(invoke d.target d.args).run P w=.ok (.enter g (first++#[.func (.yield l) #[] #[]]++cap)) w:=by
 refine ⟨_,by simp [resolve,hy,Deferred.ofValue];rfl,?_⟩
 simp [invoke,O3 mQ,Act.eval]
theorem ali {N:Nat} {g:Operand} {ps:Array Tmp} {j9 body:Code} {ls:List Nat} {K:ae→Prop} {f:Nat→Value} (aG:jy g=true)
  (hi:uk P (ev f g) ls (ls.map f) ⟨N,ps,j9,body⟩ h K):∃h',gK P N true (.rangeFunc g ps j9 body) f h .normal f h'∧K h':=by
 unfold uk at hi
 split at hi
 ·rename_i F first cap hx
  obtain ⟨mQ,v,h',ry,⟨c',ls',jG,bU⟩,hk⟩:=hi
  refine ⟨_,?_,hk⟩
  intro S hS B ρ a w R
  obtain rfl:=hS rfl
  refine wpIn_rangeFunc fun fn _=>?_
  obtain ⟨H0,T0⟩:=R.heap.alloc (.deferred (some []))
  have jw:(w.alloc (.deferred (some []))).heap.size=w.heap.size+1:=World.size_alloc _ _
  have nb:=jM.alloc (w.alloc (.deferred (some []))) (.loop { state:=.ready,pending:=none,fn,tmps:=a.tmps,params:=ps,assign:=j9,body,defers:=w.heap.size })
  obtain ⟨H1,T1⟩:=H0.new (h₀:=h) (o:=.loop ⟨N,ps,j9,body⟩ ls (ls.map f)) (r:=⟨w.heap.size+1,0,0,P.cellsOf 0,0⟩) nb jw.symm rfl rfl (fun _=>.inl rfl)
   ⟨_,by rw [←jw];exact nb.new,rfl,rfl,rfl,rfl,rfl,R.size,fun t=>by
    rcases EE f ls t with e | e
    ·rw [e];exact (R.tmp t).mono (aK.vR R.heap.none)
    ·rw [e];exact .any _⟩
  have hr:=R.ev aG
  rw [hx] at hr
  generalize hy:a.eval g=y at hr
  cases hr with
  | func _ s1 s2 r1 r2=>
   rename_i PM Hw
   obtain ⟨d,aws,avQ⟩:=aDk (w:=((w.alloc (.deferred (some []))).alloc (.loop { state:=.ready,pending:=none,fn,tmps:=a.tmps,params:=ps,assign:=j9,body,defers:=w.heap.size }))) mQ a g hy (w.heap.size+1)
   refine ⟨_,_,_,d,_,F,_,_,run_enterLoop_outer fn a.tmps ps j9 body,aws,fun _ _=>trivial,avQ,fun h=>(by cases h),?_⟩
   have hle:=aK.vR (r:=⟨w.heap.size+1,0,0,P.cellsOf 0,0⟩) R.heap.none
   have sB:bF (ρ.add h.length ⟨w.heap.size+1,0,0,P.cellsOf 0,0⟩) (first.toList++[.func (.yield h.length) #[] #[]]++cap.toList) (PM++#[Value.func (.yield (w.heap.size+1)) #[] #[]]++Hw).toList:=by
    have q1:=(bF.ti s1 r1).mono hle
    have q3:=(bF.ti s2 r2).mono hle
    have q2:bF (ρ.add h.length ⟨w.heap.size+1,0,0,P.cellsOf 0,0⟩) [.func (.yield h.length) #[] #[]] [.func (.yield (w.heap.size+1)) #[] #[]]:=
     .cons (ax.yield (i:=h.length) (r:=⟨w.heap.size+1,0,0,P.cellsOf 0,0⟩) (by simp [aK.add])) .nil
    simpa using (q1.append q2).append q3
   refine (abI (ry _ _ _ sB H1) none _).mono ?_
   rintro e w3 ⟨v',av,rfl,hv,H3,T3⟩
   have Rt:av h.length=some ⟨w.heap.size+1,0,0,P.cellsOf 0,0⟩:=T3.ext _ _ (by simp [aK.add])
   obtain ⟨o,ho,rC⟩:=H3.obj _ _ Rt
   rw [bU] at ho
   cases ho
   obtain ⟨rec,g1,g2,g3,g4,g5,g6,g7,g8⟩:=rC
   have gu:=run_endLoop (P:=P) g1 (by rw [g2];decide)
   refine ⟨_,_,gu,?_⟩
   split
   rotate_left
   ·rename_i c hc;rw [g3] at hc;cases hc
   have TT:=(T0.trans (T1.trans T3))
   have Hk:=H3.kill h.length
   have awf:aZ P av (h'.set h.length .dead) (w3.putObj (w.heap.size+1) (.loop { rec with state:=.exhausted })):=by
    refine Hk.put ?_ _
    intro j s hj hs vi
    obtain ⟨c,_,_,hc⟩:=Hk.aeF g1 hj hs vi
    have bp:j≠h.length:=by
     rintro rfl
     rw [getElem?_set_self (H3.lt Rt)] at hc
     cases hc
    rw [getElem?_set_ne (Ne.symm bp)] at hc
    exact bp (H3.inj _ _ _ _ hj Rt hs (.inr (.inr (.inl ⟨_,_,_,hc⟩))) ⟨_,bU,by simp⟩)
   have TL:=TT.late (l:=w.heap.size+1) (by omega) (.loop { rec with state:=.exhausted }) h.length
   refine ⟨rfl,av,⟨R.size,?_,fun t=>(R.tmp t).mono TL.ext,awf⟩,TL⟩
   have hD:(w3.putObj (w.heap.size+1) (.loop { rec with state:=.exhausted })).heap[w.heap.size]?=some (.deferred (some [])):=by
    rw [zZ (by omega)]
    have e1:(w.alloc (.deferred (some []))).heap[w.heap.size]?=some (.deferred (some [])):=World.alloc_heap_new _ _
    have e2:=nb.old (k:=w.heap.size) (by omega)
    rw [T3.hY _ (by rw [nb.size];omega) ?_,e2,e1]
    intro j s hj hs hm
    exact H1.Sv (e2.trans e1) hj hs hm.live
   refine ⟨⟨w.heap.size,rfl,marks.base R.defers,hD,?_⟩,marks.tr R.heap TL R.defers⟩
   intro d' ny he
   obtain ⟨D,e1,e2⟩:=marks.lt R.defers d' ny
   rw [e1] at he
   have:=afk he
   omega
 ·exact hi.elim
end
end
section
section
variable {P : Program} {N : Nat}
theorem apQ {a:mH} {g g':Operand→Value} (h:∀x∈a.hX,g x=g' x):lB a g=lB a g':=by
 cases a with
 | alloc e zs=>rfl
 | nF e n zs ps=>
  simp only [lB]
  rw [Ka (ps:=ps) h]
 | make e b zs l c=>
  simp only [mH.hX,mem_cons,List.not_mem_nil,or_false,forall_eq_or_imp,forall_eq] at h
  simp only [lB,h.1,h.2]
 | o9 g=>rfl
theorem apR {a:mH} {g:Operand→Value} {V:Nat→Value} {o:aq} (h:lB a g=some (V,o)) {ρ av:aK} {i j:Nat} {v':Value} (e:av j=ρ i) (hv:ax ρ (V i) v'):ax av (V j) v':=by
 have ptr:V=(fun i=>.pointer (some ⟨i,0,none⟩))→ax av (V j) v':=by
  rintro rfl
  cases hv with
  | ptr hr=>exact .ptr (by rw [e];exact hr)
 have slc:∀t n,V=(fun i=>sl t i 0 n)→ax av (V j) v':=by
  rintro t n rfl
  cases hv with
  | slice hr a b c d=>exact .slice (by rw [e];exact hr) a b c d
 have mp:V=(fun i=>.map (some i))→ax av (V j) v':=by
  rintro rfl
  cases hv with
  | map hr=>exact .map (by rw [e];exact hr)
 cases a with
 | o9 g=>simp [lB] at h;exact mp h.1.symm
 | alloc t zs=>simp [lB] at h;exact ptr h.1.symm
 | nF t n zs ps=>simp only [lB,map_eq_some_iff,Prod.mk.injEq] at h;obtain ⟨_,_,h1,_⟩:=h;exact slc t n h1.symm
 | make t b zs l c=>
  simp only [lB] at h
  split at h
  ·split at h
   ·simp at h;exact slc t _ h.1.symm
   ·cases h
  ·cases h
theorem Pz {o:aq} {u:Value} (h:py o=some u):(∃e xs,o=.arr e xs∧(∀x∈xs,sY x=true)∧u=.agg (.int .i64 e::xs).toArray)∨∃g,o=.cR g 0 []∧u=.tuple #[Dx g]:=by
 unfold py at h
 split at h
 ·rename_i e xs
  split at h
  ·rename_i hx
   rw [all_eq_true] at hx
   injection h with h
   exact .inl ⟨e,xs,rfl,hx,h.symm⟩
  ·cases h
 ·rename_i g c es
  split at h
  ·rename_i hc
   obtain ⟨rfl,hc⟩:=hc
   rw [List.isEmpty_iff] at hc
   subst hc
   injection h with h
   exact .inr ⟨g,rfl,h.symm⟩
  ·cases h
 ·cases h
theorem avh {g g':fR} (h:Dx g=Dx g'):g=g':=by
 cases g <;> cases g' <;> simp [Dx] at h <;> first | rfl | (subst h;rfl) | (obtain ⟨rfl,h⟩:=h;rw [Int.ofNat.inj h]) | (have:=Int.ofNat.inj h.2;rw [h.1,this])
theorem auM {o o':aq} {u:Value} (h:py o=some u) (h':py o'=some u):o=o':=by
 rcases Pz h with ⟨e,xs,rfl,_,h1⟩ | ⟨g,rfl,h1⟩ <;> rcases Pz h' with ⟨e',fx,rfl,_,h2⟩ | ⟨g',rfl,h2⟩
 ·rw [h1] at h2
  simp at h2
  obtain ⟨h3,h4⟩:=h2
  have A8:e=e':=Int.ofNat.inj h3
  rw [A8,h4]
 ·rw [h1] at h2;cases h2
 ·rw [h1] at h2;cases h2
 ·rw [h1] at h2
  simp at h2
  rw [avh h2]
theorem kY.sY {ρ av:aK} {w:World} {r:RI} {o:aq} (hx:(py o).isSome=true) (h:kY ρ w r o):kY av w r o:=by
 obtain ⟨u,hu⟩:=Option.isSome_iff_exists.1 hx
 rcases Pz hu with ⟨e,xs,rfl,hx,_⟩ | ⟨g,rfl,_⟩
 ·obtain ⟨h1,h0,c,h2,h3,h4⟩:=h
  refine ⟨h1,h0,c,h2,h3,fun j x hj=>?_⟩
  obtain ⟨c1,y,hy,hr⟩:=h4 j x hj
  exact ⟨c1,y,hy,sY.rel (hx x (mem_of_getElem? hj)) hr⟩
 ·obtain ⟨h0,aJ,h1,h2,h3⟩:=h
  exact ⟨h0,aJ,h1,h2,fun j b k v hj=>by simp at hj⟩
theorem aZ.take {ρ av:aK} {h:ae} {w w':World} {o:aq} {p:Nat} (R:aZ P ρ h w) (hp:h[p]?=some o) (hx:(py o).isSome=true) (hn:ρ p=Option.none)
  (H':aZ P av (h++[o]) w') (T:Tr ρ h w av (h++[o]) w'):aZ P (fun k=>if k=p then av h.length else ρ k) h w':=by
 have mT:=(bK hp).1
 have new:(h++[o])[h.length]?=some o:=by simp
 have old:∀k,k<h.length→(h++[o])[k]?=h[k]?:=fun k hk=>getElem?_append_left hk
 have hle:ρ.le fun k=>if k=p then av h.length else ρ k:=by
  intro k r hr
  have:k≠p:=by rintro rfl;rw [hn] at hr;cases hr
  simp [this,hr]
 have mt:∀k,k<h.length→(cB h k↔cB (h++[o]) k):=fun k hk=>by unfold cB;rw [old k hk]
 have Ep:∀k,k<h.length→(eX h k↔eX (h++[o]) k):=fun k hk=>by unfold eX;rw [old k hk]
 have So:cB h p↔cB (h++[o]) h.length:=by unfold cB;rw [new,hp]
 have Sb:eX h p↔eX (h++[o]) h.length:=by unfold eX;rw [new,hp]
 refine ⟨?_,?_,?_⟩
 ·intro k r hr
  by_cases hk:k=p
  ·subst hk
   simp only [if_true] at hr
   obtain ⟨o',dO,nC⟩:=H'.obj _ r hr
   rw [new] at dO
   cases dO
   exact ⟨_,hp,kY.sY hx nC⟩
  ·simp only [if_neg hk] at hr
   obtain ⟨o',dO,nC⟩:=R.obj k r hr
   obtain ⟨o2,DW,Q4⟩:=H'.obj k r (T.ext k r hr)
   rw [old k (R.lt hr),dO] at DW
   cases DW
   exact ⟨o',dO,(nC.down T.ext Q4).mono hle rfl⟩
 ·intro a b r s ha hb mU hm hl
  by_cases ea:a=p <;> by_cases eb:b=p
  ·omega
  ·subst ea
   simp only [if_true] at ha
   simp only [if_neg eb] at hb
   have It:=R.lt hb
   have:=H'.inj h.length b r s ha (T.ext b s hb) mU (So.1 hm) ((Ep b It).1 hl)
   omega
  ·subst eb
   simp only [if_true] at hb
   simp only [if_neg ea] at ha
   have qj:=R.lt ha
   have:=H'.inj a h.length r s (T.ext a r ha) hb mU ((mt a qj).1 hm) (Sb.1 hl)
   omega
  ·simp only [if_neg ea] at ha
   simp only [if_neg eb] at hb
   exact H'.inj a b r s (T.ext a r ha) (T.ext b s hb) mU ((mt a (R.lt ha)).1 hm) ((Ep b (R.lt hb)).1 hl)
 ·intro k r hr
  by_cases hk:k=p
  ·subst hk;simp only [if_true] at hr;exact H'.aX _ r hr
  ·simp only [if_neg hk] at hr;exact R.aX k r hr
theorem Tr.take {Ar ρ av:aK} {hb h:ae} {wb w w':World} {o:aq} {p:Nat} (TB:Tr Ar hb wb ρ h w) (hpb:hb.length≤p) (hn:ρ p=Option.none) (T:Tr ρ h w av (h++[o]) w'):
  Tr Ar hb wb (fun k=>if k=p then av h.length else ρ k) h w':=by
 have TT:=TB.trans T
 exact {
  ext:=by
   intro k r hr
   have:=TB.ext k r hr
   have hk:k≠p:=by rintro rfl;rw [hn] at this;cases this
   simp [hk,this]
  len:=TB.len
  jC:=TB.jC
  kinds:=TB.kinds
  fresh:=by
   intro k r hr gF
   by_cases hk:k=p
   ·subst hk
    simp only [if_true] at hr
    have hbn:Ar h.length=none:=by
     cases hq:Ar h.length with
     | none=>rfl
     | some q=>have:=TB.jC _ _ hq;have:=TB.len;omega
    exact ⟨hpb,(TT.fresh _ r hr hbn).2⟩
   ·simp only [if_neg hk] at hr
    exact TB.fresh k r hr gF
  iL:=TT.iL
  hY:=TT.hY
  os:=TT.os
  tape:=TT.tape
  output:=TT.output }
theorem A1 {l:List cU} {F:Nat→Nat→Value} {H:Nat→ae} {V:Nat→Value} (T:Trace P l 0 F H V) {q:Nat} {d:cU} {a:mH} (hq:l[q]?=some d) (ho:d.op.op=.e (.fl a)) (hg:d.op.guard=none):
  ∃Vf o,lB a (ev (F q))=some (Vf,o)∧V q=Vf (H q).length∧H (q+1)=H q++[o]∧(py o).isSome=true∧dZ (H (q+1)) (V q)=py o∧
   ∀e' oe,l[e']?=some oe→oe.op.op.dJ=true→q<e'→oe.pre.testBit q=false→dZ (H (e'+1)) (V q)=py o:=by
 have hw:iK d.op.guard (F (0+q))=true:=by rw [hg];rfl
 have hy:=T.yes q d hq hw
 obtain ⟨u,u1,u2⟩:=T.flo q d a hq ho hw
 simp only [zero_add] at hy u1 u2
 rw [ho] at hy
 simp only [dd,nG,aet] at hy
 cases qj:lB a (ev (F q)) with
 | none=>rw [qj] at hy;exact hy.elim
 | some p=>
  obtain ⟨Vf,o⟩:=p
  rw [qj] at hy
  simp only [map_some] at hy
  obtain ⟨h1,h2⟩:=hy
  have iG:=N7 qj (H q).length
  rw [h1] at iG
  have DI:dZ (H (q+1)) (V q)=py o:=by
   unfold dZ
   rw [iG,←h2]
   simp
  rw [DI] at u1
  exact ⟨Vf,o,rfl,h1.symm,h2.symm,by rw [u1];rfl,DI,fun e' oe he hE aD hp=>(u2 e' oe he hE aD hp).trans u1.symm⟩
def Ms (l:List cU) (S:List Nat) (m:Nat):Prop:=∀e oe,l[e]?=some oe→oe.op.op.dJ=true→iJ oe=false→(e∈S↔e<m)
theorem zA {o:cU}:iJ o=true↔∃a,o.op.op=.e (.fl a):=by
 unfold iJ
 constructor
 ·intro h
  split at h
  ·rename_i a ha;exact ⟨a,ha⟩
  ·cases h
 ·rintro ⟨a,ha⟩;rw [ha]
structure Laid (P:Program) (N:Nat) (ops:Array Oper) (l:List cU) (perm:Nat→Nat) (mF:Nat):Prop where
 len:l.length=ops.size
 lt:∀q,q<ops.size→perm q<ops.size
 inj:∀q k,q<ops.size→k<ops.size→perm q=perm k→q=k
 sur:∀j,j<ops.size→∃q,q<ops.size∧perm q=j
 comp:∀q o d,ops[perm q]?=some o→l[q]?=some d→∃x,yj P N ops o=some x∧x.dst=d.op.dst∧x.guard=d.op.guard∧tmpsOf x.op.hX=tmpsOf d.op.op.hX∧((iJ d=false∧x.op=d.op.op)∨∃a,x.op=.e a.Fh∧d.op.op=.e (.fl a)∧d.op.guard=none)
 pre:∀q d,l[q]?=some d→∀k,k<ops.size→d.pre.testBit k=((jB (ops.toList.map fz) []).getD (perm q) 0).testBit (perm k)
 back:∀j e,e∈(ops.toList.map fz).getD j []→e<j
 B4:∀i j oi oj,l[i]?=some oi→l[j]?=some oj→B2 oj j oi i=true
 head:mF≤l.length
 low:∀q d,l[q]?=some d→q<mF→d.op.op.dJ=true→iJ d=true
 high:∀q d,l[q]?=some d→mF≤q→iJ d=false
theorem aka {oi oj:cU} {i j t:Nat} (h:B2 oj j oi i=true) (bp:i≠j) (hd:oi.op.dst=some t) (ht:uw oj t=true):(if i<j then oj.pre.testBit i else oi.pre.testBit j)=true:=by
 unfold B2 at h
 rw [hd] at h
 simp only [and_eq_true,or_eq_true,beq_iff_eq,ht,Bool.not_true,Bool.false_eq_true,false_or] at h
 rcases h.1 with h | h
 ·exact absurd h bp
 ·exact h
theorem TY {oi oj:cU} {i j:Nat} (h:B2 oj j oi i=true) (aD:i<j) (hi:oi.op.op.dJ=true) (hj:oj.op.op.dJ=true) (fi:iJ oi=false) (fj:iJ oj=false):oj.pre.testBit i=true:=by
 unfold B2 at h
 simp only [and_eq_true,aD,decide_true,hi,hj,fi,fj,Bool.and_self,Bool.not_true,Bool.not_false,Bool.false_or] at h
 exact h.2
theorem w7 {ops:Array Oper} {l:List cU} {perm:Nat→Nat} {mF:Nat} (L:Laid P N ops l perm mF) (nA:∀(q:Nat) (d:cU),l[q]?=some d→iJ d=true→d.op.guard=none) {F:Nat→Nat→Value} {H:Nat→ae} {V:Nat→Value} (T:Trace P l 0 F H V) {k:Nat}:∀(d:Nat),k+d≤mF→∃os,H (k+d)=H k++os
 | 0,_=>⟨[],by simp⟩
 | d+1,hd=>by
  obtain ⟨os,iH⟩:=w7 L nA T (k:=k) d (by omega)
  have aD:k+d<l.length:=by have:=L.head;omega
  have bU:l[k+d]?=some l[k+d]:=getElem?_eq_getElem aD
  rw [show k+(d+1)=k+d+1 by omega]
  cases hE:l[k+d].op.op.dJ with
  | true=>
   have hf:=L.low (k+d) _ bU (by omega) hE
   obtain ⟨a,ha⟩:=zA.1 hf
   obtain ⟨_,oo,_,_,h3,_⟩:=A1 T bU ha (nA _ _ bU hf)
   exact ⟨os++[oo],by rw [h3,iH];simp⟩
  | false=>
   have:=LA T (i:=k+d) 1 (by omega) (fun e oe h1 h2 h3=>by
    have:e=k+d:=by omega
    subst this
    rw [bU] at h1
    cases h1
    rw [hE] at h2
    cases h2)
   exact ⟨os,by rw [this,iH]⟩
theorem atQ {ops:Array Oper} {l:List cU} {perm:Nat→Nat} {mF:Nat} (L:Laid P N ops l perm mF) (nA:∀(q:Nat) (d:cU),l[q]?=some d→iJ d=true→d.op.guard=none) {F:Nat→Nat→Value} {H:Nat→ae} {V:Nat→Value} (T:Trace P l 0 F H V)
  {Ar:aK} {wb:World} {S r:List Nat} (hv:xW ops S r):
  CA (ops.toList.map fz) S→(∀i∈S,i<ops.size)→∀Sp,(∀q,q∈Sp↔q<ops.size∧perm q∈S)→∀m,mF≤m→m≤l.length→Ms l Sp m→∀S' B ρ a w,ep P N B ρ (eK V Sp l 0 (F 0)) (H m) a w→(H mF).length≤(H m).length→
   (∀(q:Nat) (d:cU),l[q]?=some d→iJ d=true→q∉Sp→ρ (H q).length=none∧dZ (H m) (V q)=dZ (H (q+1)) (V q))→Tr Ar (H 0) wb ρ (H m) w→∀Q:Exit→Act→World→Prop,
   (∀av a' w',ep P N B av (F l.length) (H l.length) a' w'→Tr Ar (H 0) wb av (H l.length) w'→Q .normal a' w')→wpOpsIn (FR S') 0 P ops Q r a w:=by
 induction hv with
 | nil fJ=>
  rename_i S
  intro fT aD Sp Ba m DQ hm bD S' B ρ a w R _ _ TB Q hq
  have iS:∀q,q<l.length→q∈Sp:=fun q hq=>(Ba q).2 ⟨by rw [←L.len];exact hq,fJ _ (L.lt q (by rw [←L.len];exact hq))⟩
  have hF:eK V Sp l 0 (F 0)=F l.length:=by
   have h1:=Dw T l 0 (List.range l.length) l.length (fun k=>by simp) (fun k=>by simp) (by omega) (by omega)
   rw [←h1]
   funext t
   refine wR (fun k d hk _=>?_) rfl
   have gr:=(bK hk).1
   simp only [zero_add,mem_range]
   exact ⟨fun _=>gr,fun _=>iS k gr⟩
  have hH:H l.length=H m:=by
   refine q8 T hm (le_refl _) ?_
   rintro e oe he hE ⟨h1,h2⟩
   have:=(bD e oe he hE (L.high e oe he (by omega))).1 (iS e h2)
   omega
  rw [hF] at R
  simp only [wpOpsIn]
  exact hq ρ a w (by rw [hH];exact R) (by rw [hH];exact TB)
 | cons vC vB yJ hvr ih=>
  rename_i S j0 o r
  intro fT aD Sp Ba m DQ hm bD S' B ρ a w R hlen sF TB Q hq
  have ads:j0<ops.size:=(Array.getElem?_eq_some_iff.1 vC).1
  obtain ⟨j,vh,nB⟩:=L.sur j0 ads
  have pG:j<l.length:=by rw [L.len];exact vh
  have bU:l[j]?=some (l[j]'pG):=getElem?_eq_getElem _
  generalize hd0:l[j]'pG=d at bU
  obtain ⟨x,hc,x1,x2,x3,x4⟩:=L.comp j o d (by rw [nB];exact vC) bU
  obtain ⟨q1,q2,q3,q4,q5⟩:=Df hc
  rw [x2] at q4
  rw [x1] at q5
  have QQ:j∉Sp:=fun h=>vB (by rw [←nB];exact ((Ba j).1 h).2)
  have iF:(ops.toList.map fz).getD j0 []=fz o:=by
   simp [getD,vC]
  have tO:CA (ops.toList.map fz) (j0::S):=by
   intro k e hk he
   rcases mem_cons.1 hk with rfl | hk
   ·rw [iF] at he
    exact mem_cons_of_mem _ (yJ e he)
   ·exact mem_cons_of_mem _ (fT k e hk he)
  have DC:∀q,q∈j::Sp↔q<ops.size∧perm q∈j0::S:=by
   intro q
   rw [mem_cons,mem_cons,Ba]
   constructor
   ·rintro (rfl | ⟨h1,h2⟩)
    ·exact ⟨vh,.inl nB⟩
    ·exact ⟨h1,.inr h2⟩
   ·rintro ⟨h1,h2 | h2⟩
    ·exact .inl (L.inj q j h1 vh (h2.trans nB.symm))
    ·exact .inr ⟨h1,h2⟩
  have before:∀i,i<ops.size→d.pre.testBit i=true→i∈Sp:=by
   intro i hi hb
   rw [L.pre j d bU i hi,nB] at hb
   exact (Ba i).2 ⟨hi,Kg fT L.back j0 (perm i) (by rw [iF];exact yJ) hb⟩
  have behind:∀k dk,l[k]?=some dk→dk.pre.testBit j=true→k∉Sp:=by
   intro k dk hk hb DP
   have hkn:k<ops.size:=by rw [←L.len];exact (bK hk).1
   rw [L.pre k dk hk j vh,nB] at hb
   have avX:=((Ba k).1 DP).2
   exact vB (Kg fT L.back (perm k) j0 (fun e he=>fT (perm k) e avX he) hb)
  have jQ:∀{k dk},l[k]?=some dk→k<ops.size:=fun hk=>by rw [←L.len];exact (bK hk).1
  have slot:∀t,uw d t=true→eK V Sp l 0 (F 0) t=F j t:=by
   intro t ht
   have h1:=Dw T l 0 (List.range j) j (fun k=>by simp) (fun k=>by simp) (by omega) (by omega)
   rw [←h1]
   refine wR (fun k dk hk yH=>?_) rfl
   simp only [zero_add,mem_range]
   by_cases rz:k=j
   ·subst rz
    exact ⟨fun h=>absurd h QQ,fun h=>absurd h (Nat.lt_irrefl _)⟩
   ·have hp:=aka (L.B4 k j dk d hk bU) rz yH ht
    by_cases mS:k<j
    ·rw [if_pos mS] at hp
     exact ⟨fun _=>mS,fun _=>before k (jQ hk) hp⟩
    ·rw [if_neg mS] at hp
     exact ⟨fun h=>absurd h (behind k dk hk hp),fun h=>absurd h mS⟩
  have yZ:∀t∈d.op.reads,eK V Sp l 0 (F 0) t=F j t:=fun t ht=>slot t (by simp [uw,ht])
  have Br:∀t∈tmpsOf d.op.op.hX,eK V Sp l 0 (F 0) t=F j t:=fun t ht=>yZ t (by simp [iP.reads,ht])
  have Eb:iK d.op.guard (eK V Sp l 0 (F 0))=iK d.op.guard (F j):=by
   cases hg:d.op.guard with
   | none=>rfl
   | some sb=>
    obtain ⟨s,b⟩:=sb
    simp only [iK]
    rw [yZ s (by simp [iP.reads,hg])]
  have Qy:sw d.op.guard (eK V Sp l 0 (F 0)):=by
   have:=T.P7 j d bU
   simp only [zero_add] at this
   cases hg:d.op.guard with
   | none=>trivial
   | some sb=>
    obtain ⟨s,b⟩:=sb
    rw [hg] at this
    simp only [sw] at this⊢
    rw [yZ s (by simp [iP.reads,hg])]
    exact this
  have Ec:=Fl q4 R Qy
  have jO:eK V (j::Sp) l 0 (F 0)=dK (eK V Sp l 0 (F 0)) o.dst (V j):=by
   rw [←q5]
   funext t
   by_cases mi:d.op.dst=some t
   ·have h1:=PT (V:=V) (S:=j::Sp) (l:=l) (i:=0) (f:=F 0) (k:=j) (d:=d) bU mi (by simp) (by
     intro k' d' ca ny mS
     have hp:=aka (L.B4 k' j d' d ca bU) (by omega) ny (by simp [uw,mi])
     rw [if_neg (by omega)] at hp
     have:=behind k' d' ca hp
     simp only [zero_add,mem_cons,not_or]
     exact ⟨by omega,this⟩)
    rw [h1]
    simp [mi,dK,tj]
   ·have h1:eK V (j::Sp) l 0 (F 0) t=eK V Sp l 0 (F 0) t:=by
     refine wR (fun k dk hk yH=>?_) rfl
     have rz:k≠j:=by
      rintro rfl
      rw [bU] at hk
      cases hk
      exact mi yH
     simp [rz]
    rw [h1]
    cases wZ:d.op.dst with
    | none=>rfl
    | some y=>
     have:t≠y:=by rintro rfl;exact mi wZ
     simp [dK,tj,this]
  have mm:∀i∈j0::S,i<ops.size:=by
   intro i hi
   rcases mem_cons.1 hi with rfl | hi
   ·exact ads
   ·exact aD i hi
  -- aEX still to atB stay uM aFx are
  have E8:∀q dq,l[q]?=some dq→iJ dq=true→q<mF:=by
   intro q dq hq hf
   apply byContradiction
   intro h
   rw [L.high q dq hq (by omega)] at hf
   cases hf
  have aCr:∀q dq,l[q]?=some dq→iJ dq=true→(H q).length<(H mF).length:=by
   intro q dq hq hf
   have hqm:=E8 q dq hq hf
   obtain ⟨a,ha⟩:=zA.1 hf
   obtain ⟨_,oo,_,_,h3,_⟩:=A1 T hq ha (nA _ _ hq hf)
   obtain ⟨os,iH⟩:=w7 L nA T (k:=q+1) (mF-(q+1)) (by omega)
   rw [show q+1+(mF-(q+1))=mF by omega,h3] at iH
   rw [iH]
   simp
  have aeN:∀{av:aK} {h':ae} {w':World},Tr ρ (H m) w av h' w'→∀q dq,l[q]?=some dq→iJ dq=true→ρ (H q).length=none→av (H q).length=none:=by
   intro av h' w' TT q dq hq hf hn
   cases hr:av (H q).length with
   | none=>rfl
   | some s=>
    have:=(TT.fresh _ s hr hn).1
    have:=aCr q dq hq hf
    omega
  -- gR Fe,where gR ayW writes memory
  have Ff:d.op.op.dJ=true→iJ d=false→mF≤j∧H m=H j∧Ms l (j::Sp) (j+1):=by
   intro hE rB
   have DN:mF≤j:=by
    apply byContradiction
    intro h
    rw [L.low j d bU (by omega) hE] at rB
    cases rB
   have qt:m≤j:=by
    apply byContradiction
    intro h
    exact QQ ((bD j d bU hE rB).2 (by omega))
   refine ⟨DN,?_,?_⟩
   ·refine (q8 T qt (by omega) ?_).symm
    rintro e oe he mf ⟨h1,h2⟩
    have vf:=L.high e oe he (by omega)
    have hb:=TY (L.B4 e j oe d he bU) h2 mf hE vf rB
    have:=(bD e oe he mf vf).1 (before e (jQ he) hb)
    omega
   ·intro e oe he mf vf
    rcases Nat.lt_trichotomy e j with mS | rfl | sG
    ·have hb:=TY (L.B4 e j oe d he bU) mS mf hE vf rB
     exact ⟨fun _=>by omega,fun _=>mem_cons_of_mem _ (before e (jQ he) hb)⟩
    ·exact ⟨fun _=>by omega,fun _=>by simp⟩
    ·have hb:=TY (L.B4 j e d oe bU he) sG hE mf rB vf
     have:=behind e oe he hb
     constructor
     ·intro h
      rcases mem_cons.1 h with h | h
      ·omega
      ·exact absurd h this
     ·intro h;omega
  have Cd:(d.op.op.dJ=false∨iJ d=true)→Ms l (j::Sp) m:=by
   intro hE e oe he mf vf
   have bp:e≠j:=by
    rintro rfl
    rw [bU] at he
    cases he
    rcases hE with hE | hE
    ·rw [hE] at mf;cases mf
    ·rw [hE] at vf;cases vf
   rw [←bD e oe he mf vf]
   simp [bp]
  have Ee:=T.yes j d bU
  have dG:=T.no j d bU
  simp only [zero_add] at Ee dG
  simp only [wpOpsIn,vC]
  by_cases hw:iK d.op.guard (F j)=true
  ·rw [if_pos (by rw [Ec,Eb,hw])]
   have hs:=Ee hw
   rcases x4 with ⟨rB,VE⟩ | ⟨aa,VE,Pq,dg⟩
   ·rw [VE] at q3
    by_cases hE:d.op.op.dJ=true
    ·obtain ⟨e0,e1,e2⟩:=Ff hE rB
     rw [←KL Br,←e1] at hs
     obtain ⟨v,h',st,hv,hh⟩:=zT (N:=N) q3 q1 hs
     subst hv
     subst hh
     refine st S' B ρ a w R _ _ ?_
     intro av v' w' vI HH TT
     have R':=R.ui q2 TT vI HH
     rw [←jO] at R'
     refine ih tO mm (j::Sp) DC (j+1) (by omega) (by omega) e2 S' B av _ w' R' (Nat.le_trans hlen TT.len) ?_ (TB.trans TT) Q hq
     intro q dq gG hf qw
     have hqS:q∉Sp:=fun h=>qw (mem_cons_of_mem _ h)
     obtain ⟨i1,i2⟩:=sF q dq gG hf hqS
     refine ⟨aeN TT q dq gG hf i1,?_⟩
     obtain ⟨a',ke⟩:=zA.1 hf
     obtain ⟨_,oo,_,_,_,_,h5,h6⟩:=A1 T gG ke (nA _ _ gG hf)
     rw [h5]
     refine h6 j d bU hE (by have:=E8 q dq gG hf;omega) ?_
     cases hb:d.pre.testBit q with
     | false=>rfl
     | true=>exact absurd (before q (jQ gG) hb) hqS
    ·have fS:d.op.op.dJ=false:=by simpa using hE
     -- uz is looked at has one value at this Fe and in gR aFn order
     have dP:dd P d.op.op (eK V Sp l 0 (F 0)) (H m) fun v h'=>v=V j∧h'=H m:=by
      rw [KL Br]
      cases c8:d.op.op with
      | p po=>
       rw [c8] at hs
       simp only [dd,fG] at hs⊢
       split at hs
       ·exact ⟨hs.1,trivial⟩
       ·exact hs.elim
      | l lo=>
       have Bz:fF lo (ev (F j)) (H j)=some (V j):=by
        rw [c8] at hs
        simp only [dd,fG] at hs
        split at hs
        ·rename_i v hv
         rw [hv,hs.1]
        ·exact hs.elim
       -- from a place at or behind gR head,to a Fe before it
       have down:mF≤j→m≤j→fF lo (ev (F j)) (H m)=some (V j):=by
        intro DN qt
        by_cases hex:∃e oe,l[e]?=some oe∧oe.op.op.dJ=true∧m≤e∧e<j
        ·have key:∀n,(∃e oe,l[e]?=some oe∧oe.op.op.dJ=true∧m≤e∧e<j∧e<n)→∃e oe,l[e]?=some oe∧oe.op.op.dJ=true∧m≤e∧e<j∧∀e' jq,l[e']?=some jq→jq.op.op.dJ=true→¬(m≤e'∧e'<e):=by
          intro n
          induction n with
          | zero=>rintro ⟨e,oe,_,_,_,_,h⟩;omega
          | succ n sR=>
           rintro ⟨e,oe,h1,h2,h3,h4,h5⟩
           by_cases eD:∃e oe,l[e]?=some oe∧oe.op.op.dJ=true∧m≤e∧e<j∧e<n
           ·exact sR eD
           ·refine ⟨e,oe,h1,h2,h3,h4,?_⟩
            rintro e' jq k1 k2 ⟨k3,k4⟩
            exact eD ⟨e',jq,k1,k2,k3,by omega,by omega⟩
         obtain ⟨e0,zS,g1,g2,g3,g4⟩:=hex
         obtain ⟨e,oe,h1,h2,h3,h4,h5⟩:=key j ⟨e0,zS,g1,g2,g3,g4,g4⟩
         have yx:H e=H m:=q8 T h3 (by omega) (fun e' jq k1 k2 k3=>h5 e' jq k1 k2 k3)
         rw [←yx]
         have vA:d.pre.testBit e=false:=by
          cases hb:d.pre.testBit e with
          | false=>rfl
          | true=>
           have:=(bD e oe h1 h2 (L.high e oe h1 (by omega))).1 (before e (jQ h1) hb)
           omega
         have:=T.T8 e oe j d lo h1 h2 bU c8 (by simpa using hw) h4 (by simpa using vA)
         simpa using this
        ·have yy:H j=H m:=q8 T qt (by omega) (fun e oe h1 h2 h3=>hex ⟨e,oe,h1,h2,h3⟩)
         rw [←yy]
         exact Bz
       -- to a Fe behind it,from where gR value is known
       have up:∀b,j≤b→mF≤b→b≤m→fF lo (ev (F j)) (H b)=some (V j)→fF lo (ev (F j)) (H m)=some (V j):=by
        intro b hjb hbF Bg hbv
        by_cases hex:∃e oe,l[e]?=some oe∧oe.op.op.dJ=true∧b≤e∧e<m
        ·have key:∀n,(∃e oe,l[e]?=some oe∧oe.op.op.dJ=true∧b≤e∧e<m∧m≤e+n)→∃e oe,l[e]?=some oe∧oe.op.op.dJ=true∧b≤e∧e<m∧∀e' jq,l[e']?=some jq→jq.op.op.dJ=true→¬(e+1≤e'∧e'<m):=by
          intro n
          induction n with
          | zero=>rintro ⟨e,oe,_,_,_,_,h⟩;omega
          | succ n sR=>
           rintro ⟨e,oe,h1,h2,h3,h4,h5⟩
           by_cases eD:∃e oe,l[e]?=some oe∧oe.op.op.dJ=true∧b≤e∧e<m∧m≤e+n
           ·exact sR eD
           ·refine ⟨e,oe,h1,h2,h3,h4,?_⟩
            rintro e' jq k1 k2 ⟨k3,k4⟩
            exact eD ⟨e',jq,k1,k2,by omega,by omega,by omega⟩
         obtain ⟨e0,zS,g1,g2,g3,g4⟩:=hex
         obtain ⟨e,oe,h1,h2,h3,h4,h5⟩:=key m ⟨e0,zS,g1,g2,g3,g4,by omega⟩
         have bp:e≠j:=by
          rintro rfl
          rw [bU] at h1
          cases h1
          rw [fS] at h2
          cases h2
         have yx:H m=H (e+1):=q8 T (by omega) hm (fun e' jq k1 k2 k3=>h5 e' jq k1 k2 k3)
         rw [yx]
         have vA:oe.pre.testBit j=false:=by
          cases hb:oe.pre.testBit j with
          | false=>rfl
          | true=>exact absurd ((bD e oe h1 h2 (L.high e oe h1 (by omega))).2 h4) (behind e oe h1 hb)
         have:=T.PU j d lo e oe bU c8 (by simpa using hw) h1 h2 (by omega) (by simpa using vA)
         simpa using this
        ·have yy:H m=H b:=q8 T Bg hm (fun e oe h1 h2 h3=>hex ⟨e,oe,h1,h2,h3⟩)
         rw [yy]
         exact hbv
       have bT:fF lo (ev (F j)) (H m)=some (V j):=by
        by_cases DN:mF≤j
        ·rcases Nat.le_total m j with qt | qt
         ·exact down DN qt
         ·exact up j (le_refl _) DN qt Bz
        ·obtain ⟨os,iH⟩:=w7 L nA T (k:=j) (mF-j) (by omega)
         rw [show j+(mF-j)=mF by omega] at iH
         refine up mF (by omega) (le_refl _) DQ ?_
         rw [iH]
         exact aw3 os Bz
       simp [dd,fG,bT]
      | e eo=>rw [c8] at fS;cases fS
      | call g args=>rw [c8] at fS;cases fS
      | kS x args=>rw [c8] at fS;cases fS
     obtain ⟨v,h',st,hv,hh⟩:=zT (N:=N) q3 q1 dP
     subst hv
     subst hh
     refine st S' B ρ a w R _ _ ?_
     intro av v' w' vI HH TT
     have R':=R.ui q2 TT vI HH
     rw [←jO] at R'
     refine ih tO mm (j::Sp) DC m DQ hm (Cd (.inl fS)) S' B av _ w' R' hlen ?_ (TB.trans TT) Q hq
     intro q dq gG hf qw
     obtain ⟨i1,i2⟩:=sF q dq gG hf (fun h=>qw (mem_cons_of_mem _ h))
     exact ⟨aeN TT q dq gG hf i1,i2⟩
   ·-- a new ayO
    have hf:iJ d=true:=zA.2 ⟨aa,Pq⟩
    obtain ⟨Vf,oo,h1,h2,h3,h4,h5,h6⟩:=A1 T bU Pq dg
    obtain ⟨i1,i2⟩:=sF j d bU hf QQ
    have qj:lB aa (ev (eK V Sp l 0 (F 0)))=some (Vf,oo):=by
     rw [←h1]
     refine apQ (PD fun t ht=>Br t ?_)
     rw [Pq]
     exact ht
    have iG:=N7 h1 (H j).length
    rw [←h2] at iG
    have av9:(H m)[(H j).length]?=some oo:=by
     rw [h5] at i2
     unfold dZ at i2
     rw [iG] at i2
     simp only [bind_some] at i2
     cases ho:(H m)[(H j).length]? with
     | none=>
      rw [ho] at i2
      obtain ⟨u,hu⟩:=Option.isSome_iff_exists.1 h4
      rw [hu] at i2
      cases i2
     | some o'=>
      rw [ho] at i2
      obtain ⟨u,DI⟩:=Option.isSome_iff_exists.1 h4
      simp only [bind_some] at i2
      rw [auM (i2.trans DI) DI]
    have awH:dd P x.op (eK V Sp l 0 (F 0)) (H m) fun v h'=>v=Vf (H m).length∧h'=H m++[oo]:=by
     rw [VE]
     simp only [dd,nG,aw2,aet,qj,map_some]
     exact ⟨trivial,trivial⟩
    obtain ⟨v,h',st,hv,hh⟩:=zT (N:=N) q3 q1 awH
    subst hv
    subst hh
    refine st S' B ρ a w R _ _ ?_
    intro av v' w' vI HH TT
    have HR:=R.heap.take av9 h4 i1 HH TT
    have hle:ρ.le fun k=>if k=(H j).length then av (H m).length else ρ k:=by
     intro k s hk
     have:k≠(H j).length:=by rintro rfl;rw [i1] at hk;cases hk
     simp [this,hk]
    have R1:ep P N B (fun k=>if k=(H j).length then av (H m).length else ρ k) (eK V Sp l 0 (F 0)) (H m) a w':=⟨R.size,marks.tr R.heap TT R.defers,fun t=>(R.tmp t).mono hle,HR⟩
    have zj:ax (fun k=>if k=(H j).length then av (H m).length else ρ k) (V j) v':=by
     rw [h2]
     exact apR h1 (by simp) vI
    have R':=R1.ui q2 (Tr.refl HR) zj HR
    rw [←jO] at R'
    have hjb:(H 0).length≤(H j).length:=by
     obtain ⟨os,iH⟩:=w7 L nA T (k:=0) j (by have:=E8 j d bU hf;omega)
     rw [zero_add] at iH
     rw [iH];simp
    refine ih tO mm (j::Sp) DC m DQ hm (Cd (.inr hf)) S' B _ _ w' R' hlen ?_ (TB.take hjb i1 TT) Q hq
    intro q dq gG Qt qw
    have hqj:q≠j:=fun h=>qw (by simp [h])
    obtain ⟨k1,k2⟩:=sF q dq gG Qt (fun h=>qw (mem_cons_of_mem _ h))
    refine ⟨?_,k2⟩
    have bp:(H q).length≠(H j).length:=by
     have grow:∀{a b:Nat} {da:cU},l[a]?=some da→iJ da=true→a<b→b<mF→(H a).length<(H b).length:=by
      intro a b da ha hfa gX hb
      obtain ⟨a',ke⟩:=zA.1 hfa
      obtain ⟨_,oo',_,_,g3,_⟩:=A1 T ha ke (nA _ _ ha hfa)
      obtain ⟨os,iH⟩:=w7 L nA T (k:=a+1) (b-(a+1)) (by omega)
      rw [show a+1+(b-(a+1))=b by omega,g3] at iH
      rw [iH]
      simp
     rcases Nat.lt_or_gt_of_ne hqj with h | h
     ·have:=grow gG Qt h (E8 j d bU hf);omega
     ·have:=grow bU hf h (E8 q dq gG Qt);omega
    simp [bp,k1]
  ·have oV:iK d.op.guard (F j)=false:=by simpa using hw
   rw [if_neg (by rw [Ec,Eb,oV];simp)]
   obtain ⟨n1,n2⟩:=dG oV
   have R':=R.ui q2 (Tr.refl R.heap) (ax.undef _) R.heap
   rw [n1] at jO
   rw [←jO] at R'
   have rB:iJ d=false:=by
    cases hf:iJ d with
    | false=>rfl
    | true=>rw [nA j d bU hf] at oV;cases oV
   by_cases hE:d.op.op.dJ=true
   ·obtain ⟨e0,e1,e2⟩:=Ff hE rB
    have e3:H (j+1)=H m:=by rw [n2,e1]
    refine ⟨fun _ _=>trivial,ih tO mm (j::Sp) DC (j+1) (by omega) (by omega) e2 S' B ρ _ w (by rw [e3];exact R') (by rw [e3];exact hlen) ?_ (by rw [e3];exact TB) Q hq⟩
    intro q dq gG hf qw
    rw [e3]
    exact sF q dq gG hf (fun h=>qw (mem_cons_of_mem _ h))
   ·exact ⟨fun _ _=>trivial,ih tO mm (j::Sp) DC m DQ hm (Cd (.inl (by simpa using hE))) S' B ρ _ w R' hlen (fun q dq gG hf qw=>sF q dq gG hf (fun h=>qw (mem_cons_of_mem _ h))) TB Q hq⟩
end
end
section
section
variable {P : Program} {N : Nat}
theorem atD {op:Op} {a:mH} (h:iD P op=some (.fl a)):False:=by
 unfold iD at h
 split at h
 all_goals repeat' (split at h)
 all_goals first | (cases h;done) | (simp at h;done) | (simp only [map_eq_some_iff] at h;obtain ⟨_,_,h⟩:=h;cases h;done)
theorem atF {op:Op} {a:mH} (h:uP P op=some (.e (.fl a))):False:=by
 rcases Ph h with ⟨po,e,_⟩ | ⟨lo,e,_⟩ | ⟨eo,e,he⟩ | ⟨g,args,at_,_,_,e⟩ | ⟨x,args,at_,_,e⟩
 ·cases e
 ·cases e
 ·cases e;exact atD he
 ·cases e
 ·cases e
theorem ab0:∀{l:List Nat},HM l=true→l.Nodup
 | [],_=>.nil
 | x::xs,h=>by
  simp only [HM,and_eq_true] at h
  rw [nodup_cons]
  exact ⟨by simpa using h.1,ab0 h.2⟩
theorem aeU {l:List cU} {fl:List Nat} {p0:List Nat}:∀{perm:List Nat},(∀i∈perm,i<l.length)→∀q:Nat,
  (perm.filterMap fun i=>(l[i]?).map fun o=>(⟨if fl.contains i then Dv o.op else o.op,Jm o.pre p0 0⟩:cU))[q]?=(perm[q]?).bind fun i=>(l[i]?).map fun o=>⟨if fl.contains i then Dv o.op else o.op,Jm o.pre p0 0⟩
 | [],_,q=>by simp
 | i::perm,h,q=>by
  have bC:i<l.length:=h i (by simp)
  have hi:l[i]?=some l[i]:=getElem?_eq_getElem bC
  rw [List.filterMap_cons,hi]
  simp only [map_some]
  cases q with
  | zero=>simp [hi]
  | succ q=>
   rw [List.getElem?_cons_succ,List.getElem?_cons_succ]
   exact aeU (fun i hi=>h i (by simp [hi])) q
theorem atE {ops:Array Oper} {l:List cU} {perm:List Nat} (hc:HB P N ops=some (l,perm)):P.follows .mixedOrders=true∧yc ops.toList 0=true∧Laid P N ops l (fun q=>perm.getD q 0) (tQ l)∧∀(q:Nat) (d:cU),l[q]?=some d→iJ d=true→d.op.guard=none:=by
 unfold HB at hc
 split at hc
 ·rename_i ios QD
  simp only at hc
  split at hc
  ·rename_i sE
   simp only [Option.some.injEq,Prod.mk.injEq] at hc
   obtain ⟨hl,hp⟩:=hc
   rw [hp] at hl sE
   rw [hl] at sE
   simp only [and_eq_true] at sE
   obtain ⟨⟨DR,sC⟩,aG⟩:=sE
   obtain ⟨g1,g2⟩:=Pg QD
   have mT:(jB (ops.toList.map fz) []).length=ops.size:=by rw [Hu];simp
   have QJ:ios.length≤(jB (ops.toList.map fz) []).length:=by rw [Hu];simp [g1]
   obtain ⟨z1,z2⟩:=VI QJ
   have hz:(oD ios (jB (ops.toList.map fz) [])).length=ops.size:=by rw [z1,g1];simp
   unfold okF at aG
   simp only [and_eq_true,beq_iff_eq] at aG
   obtain ⟨⟨⟨⟨⟨⟨⟨o1,o2⟩,o3⟩,o4⟩,o5⟩,o6⟩,o7⟩,o8⟩:=aG
   rw [mT] at o1 o2 o4 o7
   rw [all_eq_true] at o4 o5 o6 o7 o8
   have aD:∀i∈perm,i<ops.size:=fun i hi=>by simpa using o4 i hi
   have bU:∀q,q<ops.size→perm.getD q 0∈perm:=by
    intro q hq
    have:q<perm.length:=by omega
    rw [List.getD_eq_getElem?_getD,getElem?_eq_getElem this]
    exact List.getElem_mem this
   have oT:=ab0 o3
   have inj:∀q k,q<ops.size→k<ops.size→perm.getD q 0=perm.getD k 0→q=k:=by
    intro q k hq hk he
    have gG:q<perm.length:=by omega
    have ca:k<perm.length:=by omega
    rw [List.getD_eq_getElem?_getD,List.getD_eq_getElem?_getD,getElem?_eq_getElem gG,getElem?_eq_getElem ca] at he
    simp only [getD_some] at he
    have hp:=List.pairwise_iff_getElem.1 oT
    rcases Nat.lt_trichotomy q k with h | h | h
    ·exact absurd he (hp q k gG ca h)
    ·exact h
    ·exact absurd he.symm (hp k q ca gG h)
   have mem:∀{q d},l[q]?=some d→(d,q)∈l.zipIdx:=fun h=>List.mem_zipIdx_iff_getElem?.2 h
   refine ⟨DR,sC,⟨o1,fun q hq=>aD _ (bU q hq),inj,?_,?_,?_,?_,?_,Nat.sub_le _ _,?_,?_⟩,?_⟩
   ·intro j hj
    have rA:j∈perm:=by
     apply byContradiction
     intro dG
     have rF:perm ⊆ (List.range ops.size).erase j:=by
      intro x hx
      have Rn:x≠j:=by rintro rfl;exact dG hx
      rw [List.mem_erase_of_ne Rn]
      exact mem_range.2 (aD x hx)
     have:=Ju oT rF
     rw [List.length_erase_of_mem (mem_range.2 hj),List.length_range] at this
     omega
    obtain ⟨q,hq,e⟩:=List.mem_iff_getElem.1 rA
    exact ⟨q,by omega,by rw [List.getD_eq_getElem?_getD,getElem?_eq_getElem hq,getD_some,e]⟩
   ·intro q o d ho hd
    have qw:q<ops.size:=by rw [←o1];exact (bK hd).1
    have gG:q<perm.length:=by omega
    have sK:=aeU (l:=oD ios (jB (ops.toList.map fz) [])) (fl:=PQ (oD ios (jB (ops.toList.map fz) []))) (p0:=perm) (perm:=perm) (fun i hi=>by rw [hz];exact aD i hi) q
    have lH:=hl
    unfold aeT at lH
    rw [lH,hd] at sK
    rw [getElem?_eq_getElem gG] at sK
    simp only [bind_some] at sK
    have IT:perm.getD q 0=perm[q]:=by rw [List.getD_eq_getElem?_getD,getElem?_eq_getElem gG];rfl
    rw [IT] at ho
    cases Ro:(oD ios (jB (ops.toList.map fz) []))[perm[q]]? with
    | none=>rw [Ro] at sK;cases sK
    | some dz=>
     rw [Ro] at sK
     simp only [map_some,Option.some.injEq] at sK
     have hx:=(z2 _ _ Ro).1
     have mQ:=g2 _ o dz.op (by simpa using ho) hx
     obtain ⟨c1,c2,c3,c4,c5⟩:=Df mQ
     have ayH:∀a,dz.op.op≠ .e (.fl a):=by
      intro a e
      rw [e] at c3
      exact atF c3
     refine ⟨dz.op,mQ,?_⟩
     have plain:d.op=dz.op→dz.op.dst=d.op.dst∧dz.op.guard=d.op.guard∧tmpsOf dz.op.op.hX=tmpsOf d.op.op.hX∧((iJ d=false∧dz.op.op=d.op.op)∨∃a,dz.op.op=.e a.Fh∧d.op.op=.e (.fl a)∧d.op.guard=none):=by
      intro e
      refine ⟨by rw [e],by rw [e],by rw [e],.inl ⟨?_,by rw [e]⟩⟩
      cases hf:iJ d with
      | false=>rfl
      | true=>
       obtain ⟨a,ha⟩:=zA.1 hf
       rw [e] at ha
       exact absurd ha (ayH a)
     by_cases sF:(PQ (oD ios (jB (ops.toList.map fz) []))).contains perm[q]=true
     ·rw [if_pos sF] at sK
      have tP:d.op=Dv dz.op:=by rw [sK]
      unfold Dv at tP
      split at tP
      ·rename_i eo he hg
       split at tP
       ·rename_i a ha
        refine ⟨by rw [tP],by rw [tP,hg],?_,.inr ⟨a,by rw [he,alX ha],by rw [tP],by rw [tP]⟩⟩
        rw [tP,he,←alX ha]
        cases a <;> rfl
       ·exact plain tP
      ·exact plain tP
     ·rw [if_neg sF] at sK
      exact plain (by rw [sK])
   ·intro q d hd k hk
    have h1:=o7 (d,q) (mem hd)
    rw [all_eq_true] at h1
    have:=h1 k (mem_range.2 hk)
    simpa using this
   ·intro j e he
    by_cases hj:j<ops.size
    ·have hg:ops.toList[j]?=some ops[j]:=by simp [hj]
     have:(ops.toList.map fz).getD j []=fz ops[j]:=by simp [getD,hj]
     rw [this] at he
     have:=Gg sC j ops[j] hg e he
     omega
    ·have:(ops.toList.map fz).getD j []=[]:=by simp [getD,le_of_not_lt hj]
     rw [this] at he
     simp at he
   ·intro i j oi oj hi hj
    have h1:=o5 (oj,j) (mem hj)
    rw [all_eq_true] at h1
    exact h1 (oi,i) (mem hi)
   ·intro q d hd hq hE
    have h1:=o6 (d,q) (mem hd)
    simp only at h1
    rw [if_pos hq,hE] at h1
    simpa using h1
   ·intro q d hd hq
    have h1:=o6 (d,q) (mem hd)
    simp only at h1
    rw [if_neg (by omega)] at h1
    simpa using h1
   ·intro q d hd hf
    have h1:=o8 (d,q) (mem hd)
    simp only [hf,Bool.not_true,Bool.false_or,Option.isNone_iff_eq_none] at h1
    exact h1
  ·cases hc
 ·cases hc
theorem awV {out:Bool} {id:Nat} {ops:Array Oper} {l:List cU} {perm:List Nat} {K:(Nat→Value)→ae→Prop} {f:Nat→Value} {h:ae} (hc:HB P N ops=some (l,perm)) (hi:kW P l 0 [] [] K f h):
  ∃f' h',gK P N out (.region id ops true) f h .normal f' h'∧K f' h':=by
 obtain ⟨DR,sC,L,nA⟩:=atE hc
 obtain ⟨F,H,V,f1,f2,f3,T,_,_⟩:=RA hi
 simp only [zero_add] at f3
 refine ⟨F l.length,H l.length,?_,f3⟩
 intro S hS B ρ a w R
 refine wpIn_region_draw ?_
 intro t
 have Rd:Region.schedule (P.follows .mixedOrders) ops t=Region.linearise .any ops t:=by
  unfold Region.schedule
  rw [DR]
  simp
 rw [Rd]
 have bT:=ae1 sC t
 have DU:∀(l:List cU) (i:Nat) (f:Nat→Value),eK V [] l i f=f:=by
  intro l
  induction l with
  | nil=>intro i f;rfl
  | cons a l ih=>intro i f;simp [eK,ih]
 obtain ⟨os,iH⟩:=w7 L nA T (k:=0) (tQ l) (by omega)
 rw [zero_add] at iH
 have R0:ep P N B ρ f h a { w with drawn:=w.drawn+1 }:=R.mono (Tr.drew R.heap _) (R.heap.drew _)
 have Ip:H 0=h:=f2
 have TG:Tr ρ (H 0) w ρ (H (tQ l)) { w with drawn:=w.drawn+1 }:=by
  rw [iH,Ip]
  exact (Tr.drew R.heap _).trans (Tr.Ig R0.heap os)
 have R1:ep P N B ρ (eK V [] l 0 (F 0)) (H (tQ l)) a { w with drawn:=w.drawn+1 }:=by
  rw [DU,f1,iH,Ip]
  exact R0.mono (Tr.Ig R0.heap os) (R0.heap.Ig os)
 refine atQ L nA T bT (fun j e hj=>by simp at hj) (fun i hi=>by simp at hi) [] (fun q=>by simp) (tQ l) (le_refl _) L.head (fun e oe he _ hf=>?_) S B ρ a _ R1 (le_refl _) ?_ TG _ ?_
 ·constructor
  ·intro h;simp at h
  ·intro aD
   -- an effect at gR head is a float
   rename_i hE
   rw [L.low e oe he aD hE] at hf
   cases hf
 ·intro q d hq hf _
  obtain ⟨a',ke⟩:=zA.1 hf
  obtain ⟨_,oo,g1,g2,g3,_,g5,_⟩:=A1 T hq ke (nA q d hq hf)
  have hqm:q<tQ l:=by
   apply byContradiction
   intro h'
   rw [L.high q d hq (by omega)] at hf
   cases hf
  constructor
  ·obtain ⟨os',DY⟩:=w7 L nA T (k:=0) q (by omega)
   rw [zero_add,Ip] at DY
   cases hr:ρ (H q).length with
   | none=>rfl
   | some r=>
    have:=R.heap.lt hr
    rw [DY] at this
    simp at this
    omega
  ·obtain ⟨os',DY⟩:=w7 L nA T (k:=q+1) (tQ l-(q+1)) (by omega)
   rw [show q+1+(tQ l-(q+1))=tQ l by omega] at DY
   rw [DY]
   have iG:=N7 g1 (H q).length
   rw [←g2] at iG
   unfold dZ
   rw [iG]
   simp only [bind_some]
   rw [getElem?_append_left (by rw [g3];simp)]
 ·intro av a' w' R' T'
  refine ⟨rfl,av,R',?_⟩
  rw [Ip] at T'
  exact T'
theorem aep {out:Bool} {id:Nat} {ops:Array Oper} {l:List cU} {K:(Nat→Value)→ae→Prop} {f:Nat→Value} {h:ae} (hc:Pe P N ops=some l) (hi:kW P l 0 [] [] K f h):
  ∃f' h',gK P N out (.region id ops true) f h .normal f' h'∧K f' h':=by
 unfold Pe at hc
 split at hc
 ·rename_i l' hl
  simp at hc;subst hc
  exact awW hl hi
 ·rw [map_eq_some_iff] at hc
  obtain ⟨⟨l',perm⟩,hl,rfl⟩:=hc
  exact awV hl hi
end
end
section
section
variable {P : Program} {N : Nat}
theorem Jw (f:Nat→Value) (ks ls:List Nat) (xs:List Value) (h:xs=ls.map f):tm (kj (ks++ls) (ks.map f++xs)) f:=by
 subst h
 rw [←List.map_append]
 exact EE f (ks++ls)
theorem RK {out:Bool}:∀{c:Code} {hs dP:Hints} {ic:fa},fy P N c hs=some (ic,dP)→(out=true∨iz c=true)→∀{K:Exit→(Nat→Value)→ae→Prop} {f:Nat→Value} {h:ae},iV P ic K f h→
  ∃e f' h',gK P N out c f h e f' h'∧K e f' h':=by
 intro c
 induction c with
 | skip=>
  intro hs dP ic hc ho K f h hi
  simp [fy] at hc
  obtain ⟨rfl,_⟩:=hc
  exact ⟨.normal,f,h,fun S hS B ρ a w R=>wpIn_skip ⟨rfl,ρ,R,Tr.refl R.heap⟩,hi⟩
 | region id ops draw=>
  intro hs dP ic hc ho K f h hi
  cases draw with
  | true=>
   simp only [fy] at hc
   split at hc
   ·rename_i l hl
    split at hc
    ·rename_i vi
     simp at hc
     obtain ⟨rfl,_⟩:=hc
     have ik:=acC (ab2 vi) hi
     rw [HG] at ik
     obtain ⟨f',h',r1,r2⟩:=aep (id:=id) hl ik
     exact ⟨.normal,f',h',r1,r2⟩
    ·cases hc
   ·cases hc
  | false=>
   simp only [fy] at hc
   split at hc
   ·rename_i l hl
    split at hc
    ·rename_i vi
     simp only [Option.some.injEq] at hc
     have he:ic=(qT (tM l) hs).1:=by rw [hc]
     subst he
     obtain ⟨f',h',r1,r2⟩:=aCz (i:=0) (os:=ops.toList) (ops:=ops) (fun k o hk=>by simpa using hk) (by rw [H9];exact hl) (aeZ vi) hi
     refine ⟨.normal,f',h',gK.region ?_,r2⟩
     rw [List.range_eq_range']
     simpa using r1
    ·cases hc
   ·simp at hc
    obtain ⟨rfl,_⟩:=hc
    exact (show False from hi).elim
 | seq x y zy zz=>
  intro hs dP ic hc ho K f h hi
  have yV:out=true∨iz x=true:=ho.imp id fun h=>by simp only [iz,and_eq_true] at h;exact h.1
  have yW:out=true∨iz y=true:=ho.imp id fun h=>by simp only [iz,and_eq_true] at h;exact h.2
  have both:∀{a b:fa} {h0 iU jD:Hints} {ls:List Nat},fy P N x hs=some (a,h0)→fy P N y iU=some (b,jD)→iV P (.seq a (wM ls b)) K f h→∃e f' h',gK P N out (.seq x y) f h e f' h'∧K e f' h':=by
   intro a b h0 iU jD ls ha hb hi
   obtain ⟨e,cV,h₁,r1,r2⟩:=zy ha yV hi
   by_cases he:e=.normal
   ·subst he
    obtain ⟨PV,hw,r3⟩:=abR r2
    obtain ⟨e',avf,I1,s1,s2⟩:=zz hb yW r3
    exact ⟨e',avf,I1,r1.seq (s1.weaken hw),s2⟩
   ·refine ⟨e,cV,h₁,r1.aDm he,?_⟩
    cases e <;> first | exact absurd rfl he | exact r2
  simp only [fy] at hc
  split at hc
  ·rename_i a h0 iU ha
   split at hc
   ·rename_i b jD hb
    simp at hc
    obtain ⟨rfl,_⟩:=hc
    exact both ha hb hi
   ·cases hc
  ·rename_i a ha
   split at hc
   ·rename_i b jD hb
    simp at hc
    obtain ⟨rfl,_⟩:=hc
    exact both (ls:=[]) ha hb hi
   ·cases hc
  ·cases hc
 | cond c x y zy zz=>
  intro hs dP ic hc ho K f h hi
  have yV:out=true∨iz x=true:=ho.imp id fun h=>by simp only [iz,and_eq_true] at h;exact h.1
  have yW:out=true∨iz y=true:=ho.imp id fun h=>by simp only [iz,and_eq_true] at h;exact h.2
  simp only [fy] at hc
  split at hc
  ·rename_i aG
   split at hc
   ·rename_i a iU ha
    split at hc
    ·rename_i b jD hb
     simp at hc
     obtain ⟨rfl,_⟩:=hc
     rw [aeI] at hi
     simp only [pq] at hi
     split at hi
     ·rename_i t ht
      cases t
      ·simp at hi
       obtain ⟨e,cV,h₁,r1,r2⟩:=zz hb yW hi
       exact ⟨e,cV,h₁,gK.cond aG ht (by simpa using r1),r2⟩
      ·simp at hi
       obtain ⟨e,cV,h₁,r1,r2⟩:=zy ha yV hi
       exact ⟨e,cV,h₁,gK.cond aG ht (by simpa using r1),r2⟩
     ·exact hi.elim
    ·cases hc
   ·cases hc
  ·cases hc
 | block id c ih=>
  intro hs dP ic hc ho K f h hi
  simp only [fy] at hc
  split at hc
  ·rename_i a iU ha
   simp at hc
   obtain ⟨rfl,_⟩:=hc
   obtain ⟨e,cV,h₁,r1,r2⟩:=ih ha (ho.imp (fun h=>h) fun h=>h) hi
   refine ⟨_,cV,h₁,r1.block,?_⟩
   cases e with
   | exit i=>
    simp only [bN] at r2⊢
    split <;> rename_i h
    ·rw [if_pos h] at r2;exact r2
    ·rw [if_neg h] at r2;exact r2
   | _=>exact r2
  ·cases hc
 | loop c ih=>
  intro hs dP ic hc ho K f h hi
  simp only [fy] at hc
  split at hc
  ·rename_i ks ls iU
   split at hc
   ·rename_i a jD ha
    simp at hc
    obtain ⟨rfl,_⟩:=hc
    obtain ⟨J,μ,h0,Q9⟩:=hi
    have key:∀(n:Nat) (xs:List Value) (hh:ae),μ xs hh=n→J xs hh→∃e f' h',p5 P N out c (kj (ks++ls) (ks.map f++xs)) hh e f' h'∧K e f' h':=by
     intro n
     induction n using Nat.strongRecOn with
     | _ n sR=>
      intro xs hh hn hJ
      obtain ⟨e,cV,h₁,r1,r2⟩:=ih ha (ho.imp (fun h=>h) fun h=>h) (Q9 xs hh hJ)
      by_cases he:e=.normal
      ·subst he
       obtain ⟨hk,Qc,aD⟩:=r2
       obtain ⟨e',f',h',s1,s2⟩:=sR (μ (ls.map cV) h₁) (by omega) (ls.map cV) h₁ rfl Qc
       refine ⟨e',f',h',p5.next r1 (s1.weaken ?_),s2⟩
       rw [←hk]
       exact Jw cV ks ls _ rfl
      ·refine ⟨e,cV,h₁,p5.leave he r1,?_⟩
       cases e <;> first | exact absurd rfl he | exact r2
    obtain ⟨e,f',h',s1,s2⟩:=key _ (ls.map f) h rfl h0
    exact ⟨e,f',h',(s1.weaken (Jw f ks ls _ rfl)).run,s2⟩
   ·cases hc
  ·cases hc
 | exit id=>
  intro hs dP ic hc ho K f h hi
  simp [fy] at hc
  obtain ⟨rfl,_⟩:=hc
  exact ⟨.exit id,f,h,fun S hS B ρ a w R=>wpIn_exit ⟨rfl,ρ,R,Tr.refl R.heap⟩,hi⟩
 | ret=>
  intro hs dP ic hc ho K f h hi
  simp [fy] at hc
  obtain ⟨rfl,_⟩:=hc
  exact ⟨.ret,f,h,fun S hS B ρ a w R=>wpIn_ret ⟨rfl,ρ,R,Tr.refl R.heap⟩,hi⟩
 | rangeFunc g ps j9 body=>
  intro hs dP ic hc ho K f h hi
  have ho:out=true:=ho.resolve_right (by simp [iz])
  subst ho
  simp only [fy] at hc
  split at hc
  ·rename_i ls iU
   split at hc
   ·rename_i hk
    simp at hc
    obtain ⟨rfl,_⟩:=hc
    simp only [and_eq_true] at hk
    obtain ⟨h',r1,r2⟩:=ali hk.1 hi
    exact ⟨.normal,f,h',r1,r2⟩
   ·cases hc
  ·cases hc
 | _=>intro hs dP ic hc;simp [fy] at hc
end
end
section
section
variable {P : Program} {ρ : aK} {h : ae} {w : World}
def B5:List Tmp→List Value→(Nat→Value)→Nat→Value
 | p::ps,v::vs,f=>B5 ps vs (xH f p v)
 | _,_,f=>f
theorem aki {N:Nat}:∀{ps:List Tmp} {args args':List Value} {f:Nat→Value} {tmps:Array Value},bF ρ args args'→(∀p∈ps,p<N)→tmps.size=N→(∀t,ax ρ (f t) (tmps.getD t Go.undef))→
  ((ps.zip args').foldl (fun (t:Array Value) (p,v)=>t.setIfInBounds p v) tmps).size=N∧
   ∀t,ax ρ (B5 ps args f t) (((ps.zip args').foldl (fun (t:Array Value) (p,v)=>t.setIfInBounds p v) tmps).getD t Go.undef)
 | [],args,args',f,tmps,_,_,hs,hf=>⟨hs,hf⟩
 | p::ps,_,_,f,tmps,.nil,_,hs,hf=>⟨hs,hf⟩
 | p::ps,_,_,f,tmps,.cons (x:=x) (y:=y) ha hr,hp,hs,hf=>by
  simp only [List.zip_cons_cons,List.foldl_cons,B5]
  refine aki hr (fun q hq=>hp q (by simp [hq])) (by simpa using hs) ?_
  intro t
  simp only [tj]
  by_cases ht:t=p
  ·subst ht
   have:t<tmps.size:=by rw [hs];exact hp t (by simp)
   simp [Array.getD,this]
   exact ha
  ·rw [if_neg ht]
   have e:(tmps.setIfInBounds p y).getD t Go.undef=tmps.getD t Go.undef:=by
    simp only [Array.getD_eq_getD_getElem?,Array.getElem?_setIfInBounds]
    rw [if_neg (by omega)]
   rw [e]
   exact hf t
theorem marks.put {B:Nat} {l:Nat} {o:Obj}:∀{ds:List Deferred},(∀d∈ds,d≠mark l)→marks B ds w→marks B ds (w.putObj l o)
 | [],_,h=>by simpa [marks] using h
 | d::ds,bp,⟨⟨D,h1,h2,h3,h4⟩,h5⟩=>by
  refine ⟨⟨D,h1,h2,?_,h4⟩,marks.put (fun d hd=>bp d (by simp [hd])) h5⟩
  rw [zZ]
  ·exact h3
  ·rintro rfl
   exact bp d (by simp) h1
theorem marks.ne {B l:Nat} {rec:Loop} (hl:w.heap[l]?=some (.loop rec)):∀{ds:List Deferred},marks B ds w→∀d∈ds,d≠mark l
 | [],_,d,hd=>by simp at hd
 | d::ds,⟨⟨D,h1,h2,h3,h4⟩,h5⟩,d',hd=>by
  rcases mem_cons.1 hd with rfl | hd
  ·rintro e
   rw [h1] at e
   obtain rfl:=afk e
   rw [hl] at h3
   cases h3
  ·exact marks.ne hl h5 d' hd
theorem afL {av:aK} {h':ae} {w':World} (H':aZ P av h' w') (T:Tr ρ h w av h' w') {l:Nat} {rec:Loop} (aD:l<w.heap.size) (hl:w'.heap[l]?=some (.loop rec))
  (no:∀j s,ρ j=some s→s.bw=l→¬cB h j):∀j s,av j=some s→s.bw=l→¬eX h' j:=by
 intro j s hj hs hv
 obtain ⟨c,ls,vs,hc⟩:=H'.aeF hl hj hs hv
 cases hr:ρ j with
 | some s'=>
  have:=T.ext j s' hr
  rw [hj] at this
  cases this
  exact no j s hr hs (T.kinds j (T.jC j s hr) (.inr (.inr (.inl ⟨_,_,_,hc⟩))))
 | none=>
  obtain ⟨_,q⟩:=T.fresh j s hj hr
  rcases q with q | ⟨j',s',q1,q2,q3⟩
  ·omega
  ·exact no j' s' q1 (q2.trans hs) q3
theorem aZ.Kv (H:aZ P ρ h w) {i:Nat} {r:RI} {o:aq} {x:Obj} (hi:ρ i=some r) (no:∀j s,ρ j=some s→s.bw=r.bw→¬eX h j) (ho:kY ρ (w.putObj r.bw x) r o):
  aZ P ρ (h.set i o) (w.putObj r.bw x):=by
 have aD:=H.lt hi
 have ml:∀j,j≠i→cB (h.set i o) j→cB h j:=by
  intro j e hm
  unfold cB at hm⊢
  rw [getElem?_set_ne (Ne.symm e)] at hm
  exact hm
 have ll:∀j,j≠i→eX (h.set i o) j→eX h j:=by
  intro j e hm
  unfold eX at hm⊢
  rw [getElem?_set_ne (Ne.symm e)] at hm
  exact hm
 refine ⟨?_,?_,H.aX⟩
 ·intro j s hj
  by_cases e:j=i
  ·subst e
   rw [hi] at hj
   cases hj
   exact ⟨o,by rw [getElem?_set_self aD],ho⟩
  ·obtain ⟨o',dO,hr⟩:=H.obj j s hj
   refine ⟨o',by rw [getElem?_set_ne (Ne.symm e)];exact dO,?_⟩
   by_cases hd:o'=.dead
   ·subst hd;trivial
   ·refine hr.mono (.refl _) (zZ ?_)
    intro e'
    exact no j s hj e' ⟨o',dO,hd⟩
 ·intro a b s t ha hb bD hm hl
  by_cases ea:a=i <;> by_cases eb:b=i
  ·omega
  ·subst ea
   rw [hi] at ha;cases ha
   exact absurd (ll b eb hl) (no b t hb bD.symm)
  ·subst eb
   rw [hi] at hb;cases hb
   exact absurd (ml a ea hm).live (no a s ha bD)
  ·exact H.inj a b s t ha hb bD (ml a ea hm) (ll b eb hl)
theorem Tr.Kv {av:aK} {h':ae} {w':World} {i:Nat} (hm:cB h i) (T:Tr ρ (h.set i .dead) w av h' w') (o:aq):Tr ρ h w av (h'.set i o) w':=by
 have ml:∀j,cB (h.set i .dead) j→cB h j:=by
  intro j hj
  by_cases e:j=i
  ·subst e;exact hm
  ·unfold cB at hj⊢
   rw [getElem?_set_ne (Ne.symm e)] at hj
   exact hj
 exact {
  ext:=T.ext
  len:=by simpa using T.len
  jC:=fun j s hj=>by simpa using T.jC j s hj
  kinds:=by
   intro j hj DM
   by_cases e:j=i
   ·subst e;exact hm
   ·refine ml j (T.kinds j (by simpa using hj) ?_)
    unfold cB at DM⊢
    rw [getElem?_set_ne (Ne.symm e)] at DM
    exact DM
  fresh:=by
   intro j s h1 h2
   obtain ⟨q1,q2⟩:=T.fresh j s h1 h2
   refine ⟨by simpa using q1,q2.imp (fun h=>h) ?_⟩
   rintro ⟨j',s',a,b,c⟩
   exact ⟨j',s',a,b,ml j' c⟩
  iL:=T.iL
  hY:=fun k hk dG=>T.hY k hk fun j s hj hs hmm=>dG j s hj hs (ml j hmm)
  os:=T.os
  tape:=T.tape
  output:=T.output }
theorem Tr.akr {i:Nat} {r:RI} (hd:∀j s,ρ j=some s→j<h.length) (hi:ρ i=some r) {h₁:ae} (hl:h₁.length=h.length) (hm:cB h₁ i) (x:Obj):Tr ρ h₁ w ρ h₁ (w.putObj r.bw x) where
 ext:=.refl _
 len:=le_refl _
 jC:=fun j s hj=>by rw [hl];exact hd j s hj
 kinds:=fun _ _ h=>h
 fresh:=fun j s h1 h2=>by rw [h1] at h2;cases h2
 iL:=by rw [World.putObj_size];exact le_refl _
 hY:=fun k hk dG=>zZ fun e=>dG i r hi e.symm hm
 os:=rfl
 tape:=rfl
 output:=rfl
theorem aDt {h:ae} {i:Nat} {o:aq} (hi:h[i]?=some o):h.set i o=h:=by
 apply List.ext_getElem?
 intro j
 by_cases e:j=i
 ·subst e
  rw [getElem?_set_self (bK hi).1,hi]
 ·rw [getElem?_set_ne (Ne.symm e)]
theorem aEL {i:Nat} {c:CJ} {ls:List Nat} {vs args:List Value} {ia ib:fa} {iU jD aww awx:Hints} {K:Value→ae→Prop} (hi:h[i]?=some (.loop c ls vs)) (hn:args.length=c.ps.size)
  (Bs:c.ps.all (·<c.N)=true) (ha:fy P c.N c.j9 iU=some (ia,aww)) (hb:fy P c.N c.body jD=some (ib,awx)) (na:iz c.j9=true) (nb:iz c.body=true)
  (hw:iV P ia (fun e f1 h1=>e=.normal∧h1[i]?=some .dead∧iV P ib (fun e _ h2=>e=.normal∧h2[i]?=some .dead∧K (.bool true) (h2.set i (.loop c ls vs))) f1 h1) (B5 c.ps.toList args (kj ls vs)) (h.set i .dead)):
  Ej P i args h K:=by
 obtain ⟨e1,f1,h1,r1,rfl,d1,oW⟩:=RK (out:=false) ha (.inr na) hw
 obtain ⟨e2,f2,h2,r2,rfl,d2,hk⟩:=RK (out:=false) hb (.inr nb) oW
 refine ⟨.bool true,h2.set i (.loop c ls vs),?_,hk⟩
 intro ρ r args' w jo sB H
 have hmi:cB h i:=.inr (.inr (.inl ⟨_,_,_,hi⟩))
 obtain ⟨o,ho,rC⟩:=H.obj i r jo
 rw [hi] at ho
 cases ho
 obtain ⟨rec,g1,g2,g3,g4,g5,g6,g7,g8⟩:=rC
 have aD:=(Array.getElem?_eq_some_iff.1 g1).1
 have jw:args'.size=rec.params.size:=by
  have:=sB.length
  rw [g6,←hn,this]
  simp
 refine ⟨rec.fn,_,rec.assign,rec.body,run_yield g1 jw,?_⟩
 rw [g4,g5]
 have DK:(rec.params.zip args').foldl (fun (t:Array Value) (p,v)=>t.setIfInBounds p v) rec.tmps=(c.ps.toList.zip args'.toList).foldl (fun (t:Array Value) (p,v)=>t.setIfInBounds p v) rec.tmps:=by
  rw [g6,←Array.toList_zip,Array.foldl_toList]
 obtain ⟨p1,p2⟩:=aki (N:=c.N) (ps:=c.ps.toList) (f:=kj ls vs) (tmps:=rec.tmps) sB (by
  intro p hp
  rw [Array.all_eq_true'] at Bs
  exact of_decide_eq_true (Bs p (by simpa using hp))) g7 g8
 have R0:ep P c.N w.heap.size ρ (B5 c.ps.toList args (kj ls vs)) (h.set i .dead) { tmps:=(rec.params.zip args').foldl (fun (t:Array Value) (p,v)=>t.setIfInBounds p v) rec.tmps,defers:=[] } w:=
  ⟨by rw [DK];exact p1,le_refl _,fun t=>by rw [DK];exact p2 t,H.kill i⟩
 refine roundIn_of_wpIn (F:=Fence.wide) trivial ?_
 refine wpIn_mono (r1 (some r.bw) (fun h=>by cases h) _ ρ _ w R0) ?_
 rintro e a1 w1 ⟨rfl,pY,R1,T1⟩
 have u1:∀j s,ρ j=some s→s.bw=r.bw→¬cB (h.set i .dead) j:=by
  intro j s hj hs hm
  by_cases e:j=i
  ·subst e
   unfold cB at hm
   rw [getElem?_set_self (H.lt jo)] at hm
   rcases hm with ⟨_,_,h1⟩ | ⟨_,h1⟩ | ⟨_,_,_,h1⟩ | ⟨_,_,h1⟩ | ⟨_,_,_,h1⟩ | ⟨_,_,_,_,h1⟩ <;> cases h1
  ·refine e (H.inj j i s r hj jo hs ?_ hmi.live)
   unfold cB at hm⊢
   rw [getElem?_set_ne (Ne.symm e)] at hm
   exact hm
 have l1:w1.heap[r.bw]?=some (.loop rec):=(T1.hY _ aD u1).trans g1
 have IH:=(Array.getElem?_eq_some_iff.1 l1).1
 refine ⟨_,run_beginRound l1 g2,?_⟩
 have St:=afL R1.heap T1 aD l1 u1
 have l2:(w1.putObj r.bw (.loop { rec with state:=.busy })).heap[r.bw]?=some (.loop { rec with state:=.busy }):=World.putObj_heap_same IH
 have R2:ep P c.N w.heap.size pY f1 h1 a1 (w1.putObj r.bw (.loop { rec with state:=.busy })):=
  ⟨R1.size,marks.put (marks.ne l1 R1.defers) R1.defers,R1.tmp,R1.heap.put St _⟩
 refine wpIn_mono (r2 (some r.bw) (fun h=>by cases h) _ pY a1 _ R2) ?_
 rintro e a3 w3 ⟨rfl,Cw,R3,T3⟩
 have l3:w3.heap[r.bw]?=some (.loop { rec with state:=.busy }):=(T3.hY _ (by simpa using IH) fun j s hj hs hm=>St j s hj hs hm.live).trans l2
 have no3:=afL R3.heap T3 (by simpa using IH) l3 fun j s hj hs hm=>St j s hj hs hm.live
 have awr:({ ({ rec with state:=.busy }:Loop) with state:=if (none:Option Code).isNone then .ready else .done,pending:=none }:Loop)=rec:=by
  cases rec
  simp only at g2 g3
  subst g2
  subst g3
  rfl
 have he:=run_endRound (P:=P) none l3
 rw [awr] at he
 have Rq:pY i=some r:=T1.ext _ _ jo
 have Rs:Cw i=some r:=T3.ext _ _ Rq
 have adz:=(Array.getElem?_eq_some_iff.1 l3).1
 refine ⟨_,_,he,.bool true,Cw,rfl,.bool _,?_,?_⟩
 ·refine R3.heap.Kv Rs no3 ⟨rec,World.putObj_heap_same adz,g2,g3,g4,g5,g6,g7,fun t=>(g8 t).mono (T1.ext.trans T3.ext)⟩
 ·have m1:cB (h1.set i (.loop c ls vs)) i:=.inr (.inr (.inl ⟨c,ls,vs,getElem?_set_self (R1.heap.lt Rq)⟩))
  have m3:cB (h2.set i (.loop c ls vs)) i:=.inr (.inr (.inl ⟨c,ls,vs,getElem?_set_self (R3.heap.lt Rs)⟩))
  have A:=T1.Kv hmi (.loop c ls vs)
  have B:=Tr.akr (w:=w1) (fun j s hj=>R1.heap.lt hj) Rq (h₁:=h1.set i (.loop c ls vs)) (by simp) m1 (.loop { rec with state:=.busy })
  have e1:(h1.set i (.loop c ls vs)).set i .dead=h1:=by rw [List.set_set,aDt d1]
  have C:Tr pY (h1.set i (.loop c ls vs)) _ Cw (h2.set i (.loop c ls vs)) w3:=Tr.Kv m1 (by rw [e1];exact T3) _
  have D:=Tr.akr (w:=w3) (fun j s hj=>R3.heap.lt hj) Rs (h₁:=h2.set i (.loop c ls vs)) (by simp) m3 (.loop rec)
  exact ((A.trans B).trans C).trans D
end
end
section
inductive ky where
 | tmp (t:Nat)
 | cell (agg:Bool) (n:Nat) (a:Nat)
def xw (r:ky) (f:Nat→Value) (h:ae):Option Value:=
 match r with
 | .tmp t=>some (f t)
 | .cell agg n a=>af agg n h (f a)
def oX:List ky→(Nat→Value)→ae→Option (List Value)
 | [],_,_=>some []
 | r::rs,f,h=>match xw r f h,oX rs f h with
  | some v,some vs=>some (v::vs)
  | _,_=>none
def pack:List Value→Value
 | [v]=>v
 | vs=>.tuple vs.toArray
def v3:List ky→(Nat→Value)→ae→(List Value→Prop)→Prop
 | [],_,_,k=>k []
 | .tmp t::rs,f,h,k=>v3 rs f h fun vs=>k (f t::vs)
 | .cell agg n a::rs,f,h,k=>fG (af agg n h (f a)) fun v=>v3 rs f h fun vs=>k (v::vs)
def Ks (rs:List ky) (K:Value→ae→Prop) (f:Nat→Value) (h:ae):Prop:=v3 rs f h fun vs=>K (pack vs) h
theorem Kt:∀{rs:List ky} {f:Nat→Value} {h:ae} {k:List Value→Prop},v3 rs f h k→∃vs,oX rs f h=some vs∧k vs
 | [],f,h,k,hr=>⟨[],rfl,hr⟩
 | .tmp t::rs,f,h,k,hr=>by
  obtain ⟨vs,h1,h2⟩:=Kt (rs:=rs) hr
  exact ⟨f t::vs,by simp [oX,xw,h1],h2⟩
 | .cell agg n a::rs,f,h,k,hr=>by
  simp only [v3,fG] at hr
  split at hr
  ·rename_i v hv
   obtain ⟨vs,h1,h2⟩:=Kt (rs:=rs) hr
   exact ⟨v::vs,by simp [oX,xw,h1,hv],h2⟩
  ·exact hr.elim
def Oh (rs:List ky) (K:Value→ae→Prop):Exit→(Nat→Value)→ae→Prop
 | .normal,f,h=>Ks rs K f h
 | .ret,f,h=>Ks rs K f h
 | _,_,_=>False
def bt (args:List Value):Nat→Value:=fun j=>args.getD j undef
def HE (P:Program):ResultVar→Option ky
 | .tmp t=>some (.tmp t)
 | .cell a t=>
  match P.underlying t with
  | some d=>if iI P t&&(ow d||P.cellsOf t==1) then some (.cell (ow d) (P.cellsOf t) a) else none
  | none=>none
def AS (P:Program):List ResultVar→Option (List ky)
 | []=>some []
 | r::rs=>match HE P r,AS P rs with
  | some x,some xs=>some (x::xs)
  | _,_=>none
def bz (P:Program) (F:FuncId) (hs:Hints):Option (Nat×fa×List ky):=
 match P.funcs[F]? with
 | some fn=>match fn.body with
  | some c=>match fy P fn.ntmps c hs,AS P fn.results.toList with
   | some (ic,_),some rs=>some (fn.ntmps,ic,rs)
   | _,_=>none
  | none=>none
 | none=>none
def bI:Option (Nat×fa×List ky)→fa
 | some (_,c,_)=>c
 | none=>.skip
def fa.l:fa→fa
 | .seq a _=>a
 | .cut _ c=>c
 | .cond _ a _=>a
 | .block _ c=>c
 | .loop _ _ c=>c
 | c=>c
def fa.r:fa→fa
 | .seq _ b=>b
 | .cond _ _ b=>b
 | c=>c
section
variable {P : Program} {w : World} {ρ : aK} {h : ae}
def Ad (tmps:Array Value):ResultVar→Sem Value
 | .tmp t=>pure (tmps.getD t Go.undef)
 | .cell b t=>do loadVar t (←asAddr (tmps.getD b Go.undef))
theorem aCG (fn:Func) (tmps:Array Value):results fn tmps=(do let vs ←fn.results.mapM (Ad tmps);pure (if h:vs.size=1 then vs[0] else .tuple vs)):=by
 have e:(fun r:ResultVar=>(match r with
   | .tmp t=>(pure (tmps.getD t Go.undef):Sem Value)
   | .cell a t=>do loadVar t (←asAddr (tmps.getD a Go.undef))))=Ad tmps:=by
  funext r
  cases r <;> rfl
 rw [←e]
 rfl
theorem aDl {N B:Nat} {f:Nat→Value} {a:Act} (R:ep P N B ρ f h a w) {r:ResultVar} {x:ky} (hc:HE P r=some x) {v:Value} (hv:xw x f h=some v):
  ∃v',(Ad a.tmps r).run P w=.ok v' w∧ax ρ v v':=by
 cases r with
 | tmp t=>
  simp [HE] at hc;subst hc
  simp [xw] at hv;subst hv
  exact ⟨_,rfl,R.tmp t⟩
 | cell b t=>
  simp only [HE] at hc
  split at hc
  ·rename_i d ht
   split at hc
   ·rename_i hk
    simp at hc;subst hc
    simp only [and_eq_true] at hk
    simp only [xw] at hv
    obtain ⟨v',q1,q2⟩:=alv R.heap ht hk.1 hv (R.tmp b)
    refine ⟨v',?_,q2⟩
    have kG:=hv
    unfold af at kG
    split at kG
    ·rename_i i o hfb
     have:=R.tmp b
     rw [hfb] at this
     obtain ⟨r',_,e⟩:=this.E2
     simp only [Ad]
     rw [e] at q1⊢
     simpa [Instr.loadAt,Instr.sureAddr,asAddr] using q1
    ·cases kG
   ·cases hc
  ·cases hc
theorem alB {α β:Type} (g:α→Sem β) (w:World):∀{xs:List α} {ys:List β},(∀(k:Nat) (x:α),xs[k]?=some x→∃y,ys[k]?=some y∧(g x).run P w=.ok y w)→xs.length=ys.length→(xs.mapM g).run P w=.ok ys w
 | [],[],_,_=>rfl
 | x::xs,y::ys,h,hl=>by
  obtain ⟨y',h1,h2⟩:=h 0 x rfl
  simp at h1;subst h1
  have ih:=alB g w (xs:=xs) (ys:=ys) (fun k a hk=>by simpa using h (k+1) a (by simpa using hk)) (by simpa using hl)
  simp only [List.mapM_cons,Sem.run_bind,h2,Result.andThen_ok,ih,Sem.run_pure]
theorem alD {N B:Nat} {f:Nat→Value} {a:Act} (R:ep P N B ρ f h a w):∀{l:List ResultVar} {rs:List ky} {vs:List Value},AS P l=some rs→oX rs f h=some vs→
  ∃jG:List Value,bF ρ vs jG∧l.length=jG.length∧∀(k:Nat) (r:ResultVar),l[k]?=some r→∃y,jG[k]?=some y∧(Ad a.tmps r).run P w=.ok y w
 | [],rs,vs,hc,hv=>by
  simp [AS] at hc;subst hc
  simp [oX] at hv;subst hv
  exact ⟨[],.nil,rfl,fun k r hk=>by simp at hk⟩
 | r::l,rs,vs,hc,hv=>by
  simp only [AS] at hc
  split at hc
  ·rename_i x xs h1 h2
   simp at hc;subst hc
   simp only [oX] at hv
   split at hv
   ·rename_i v vs h3 h4
    simp at hv;subst hv
    obtain ⟨v',q1,q2⟩:=aDl R h1 h3
    obtain ⟨jG,s1,s2,s3⟩:=alD R h2 h4
    refine ⟨v'::jG,.cons q2 s1,by simp [s2],?_⟩
    intro k r' hk
    cases k with
    | zero=>simp at hk;subst hk;exact ⟨v',rfl,q1⟩
    | succ k=>simpa using s3 k r' (by simpa using hk)
   ·cases hv
  ·cases hc
theorem alE {N B:Nat} {f:Nat→Value} {a:Act} (R:ep P N B ρ f h a w) {fn:Func} {rs:List ky} {vs:List Value} (hc:AS P fn.results.toList=some rs) (hv:oX rs f h=some vs):
  ∃v',(results fn a.tmps).run P w=.ok v' w∧ax ρ (pack vs) v':=by
 obtain ⟨jG,h1,h2,h3⟩:=alD R hc hv
 have hm:=alB (P:=P) (Ad a.tmps) w h3 h2
 have fU:(fn.results.mapM (Ad a.tmps)).run P w=.ok jG.toArray w:=by
  rw [Array.mapM_eq_mapM_toList]
  simp only [Sem.run_map,hm,Result.andThen_ok]
 refine ⟨if h:jG.toArray.size=1 then jG.toArray[0] else .tuple jG.toArray,?_,?_⟩
 ·rw [aCG]
  simp only [Sem.run_bind,fU,Result.andThen_ok,Sem.run_pure]
 ·cases h1 with
  | nil=>simpa [pack] using ax.rU (ρ:=ρ) .nil
  | cons a1 a2=>
   cases a2 with
   | nil=>simpa [pack] using a1
   | cons b1 b2=>simpa [pack] using ax.rU (.cons a1 (.cons b1 b2))
theorem acx {args:List Value} {args':Array Value} (hv:bF ρ args args'.toList) (N:Nat) (t:Nat):ax ρ (bt args t) ((args'++replicate (N-args'.size) Go.undef).getD t Go.undef):=by
 unfold bt
 have hl:=hv.length
 by_cases ht:t<args.length
 ·obtain ⟨y,hy,hr⟩:=hv.get (k:=t) (x:=args[t]) (getElem?_eq_getElem ht)
  have hs:t<args'.size:=by simpa using (by omega:t<args'.toList.length)
  have e1:args.getD t undef=args[t]:=by simp [getD,ht]
  rw [e1,Array.getD_eq_getD_getElem?,Array.getElem?_append_left hs]
  simp only [getElem?_toList] at hy
  rw [hy]
  exact hr
 ·have e1:args.getD t undef=undef:=by simp [getD,le_of_not_lt ht]
  have e2:(args'++replicate (N-args'.size) Go.undef).getD t Go.undef=undef:=by
   have hs:¬t<args'.size:=by simp at hl;omega
   rw [Array.getD_eq_getD_getElem?,Array.getElem?_append_right (by omega)]
   by_cases h2:t-args'.size<N-args'.size
   ·simp [h2]
   ·simp [h2]
  rw [e1,e2]
  exact ax.undef _
theorem Tr.ax4 {av:aK} {h':ae} {w':World} (T:Tr ρ h w av h' w') {l:Nat} (hl:w.heap.size≤l) (o:Obj):Tr ρ h w av h' (w'.putObj l o) where
 ext:=T.ext
 len:=T.len
 jC:=T.jC
 kinds:=T.kinds
 fresh:=T.fresh
 iL:=by rw [World.putObj_size];exact T.iL
 hY:=fun k hk dG=>by rw [zZ (by omega)];exact T.hY k hk dG
 os:=T.os
 tape:=T.tape
 output:=T.output
theorem R5 {av:aK} {h':ae} {fn:Func} {tmps:Array Value} {Q:Ending→World→Prop}:∀{ds:List Deferred} {w':World},marks w.heap.size ds w'→aZ P av h' w'→Tr ρ h w av h' w'→
  (∀jV,aZ P av h' jV→Tr ρ h w av h' jV→∃v,(results fn tmps).run P jV=.ok v jV∧Q (.returned v) jV)→LeavesInM Fence.wide 0 P fn tmps Q ds .returning w'
 | [],w',_,H,T,hq=>hq w' H T
 | d::ds,w',⟨⟨D,h1,h2,h3,h4⟩,h5⟩,H,T,hq=>by
  refine ⟨by simp,.inl ⟨D,_,by rw [h1];rfl,run_takeDeferred h3,?_⟩⟩
  exact R5 (marks.put (fun d hd=>h4 d hd) h5) (H.put (fun j s hj hs=>H.Sv h3 hj hs) _) (T.ax4 h2 _) hq
theorem aen {F:FuncId} {N:Nat} {ic:fa} {rs:List ky} {hs:Hints} (hc:bz P F hs=some (N,ic,rs)) {args:List Value} (ha:args.length≤N) {K:Value→ae→Prop}
  (hi:iV P ic (Oh rs K) (bt args) h):rN P F args h K:=by
 unfold bz at hc
 split at hc
 ·rename_i fn hf
  split at hc
  ·rename_i c hb
   split at hc
   ·rename_i ic' _ UB h1 h2
    simp at hc
    obtain ⟨hN,rfl,rfl⟩:=hc
    obtain ⟨e,f',h',r1,r2⟩:=RK (out:=true) h1 (.inl rfl) hi
    have sN:(e=.normal∨e=.ret)∧Ks UB K f' h':=by
     cases e <;> first | exact ⟨.inl rfl,r2⟩ | exact ⟨.inr rfl,r2⟩ | exact r2.elim
    obtain ⟨he,sN⟩:=sN
    obtain ⟨vs,tT,sN⟩:=Kt sN
    ·refine ⟨pack vs,h',?_,sN⟩
     intro ρ args' w hv H
     refine callsIn_wide.1 (callsIn_of_wp_marks (F:=Fence.wide) (n:=0) hf hb trivial ?_ rfl)
     have jw:args'.size=args.length:=by have:=hv.length;simpa using this.symm
     have R:ep P fn.ntmps w.heap.size ρ (bt args) h { tmps:=args'++replicate (fn.ntmps-args'.size) Go.undef,defers:=[] } w:=⟨by simp;omega,le_refl _,acx hv fn.ntmps,H⟩
     refine wpIn_mono (r1 none (fun _=>rfl) _ ρ _ w R) ?_
     rintro e' a' w' ⟨rfl,av,R',T⟩
     have key:LeavesInM Fence.wide 0 P fn a'.tmps (fun e w'=>∃v' av,e=.returned v'∧ax av (pack vs) v'∧aZ P av h' w'∧Tr ρ h w av h' w') a'.defers .returning w':=by
      refine R5 R'.defers R'.heap T ?_
      intro jV CC tB
      have oH:ep P fn.ntmps 0 av f' h' { a' with defers:=[] } jV:=⟨R'.size,Nat.zero_le _,R'.tmp,CC⟩
      obtain ⟨v',q1,q2⟩:=alE oH h2 tT
      exact ⟨v',q1,v',av,rfl,q2,CC,tB⟩
     rcases he with rfl | rfl
     ·exact key
     ·exact key
   ·cases hc
  ·cases hc
 ·cases hc
theorem awT {F:FuncId} {args:List Value} {h:ae} {v:Value} (hi:rN P F args h fun u _=>u=v) {ρ:aK} {args':Array Value} {w:World} (hv:bF ρ args args'.toList) (H:aZ P ρ h w)
  (kF:∀i,¬cB h i):Calls P F args' w fun e w'=>(∃v' av,e=.returned v'∧ax av v v')∧RowKit.Below w.heap.size w w':=by
 obtain ⟨u,h',hc,rfl⟩:=hi
 refine (hc ρ args' w hv H).mono ?_
 rintro e w' ⟨v',av,rfl,h1,_,T⟩
 exact ⟨⟨v',av,rfl,h1⟩,⟨T.os,T.tape,T.output,T.iL,fun k hk=>T.hY k hk fun j s _ _ hm=>kF j hm⟩⟩
end
end
section
abbrev VK:=Value→ae→Prop
abbrev LQ:=List Value→ae→Prop
abbrev gm (a n:Nat):je:=⟨some a,.p (.mv (.tmp n))⟩
abbrev gd (a n m:Nat):j6:=⟨some a,.p (.mv (.tmp n)),m⟩
abbrev ci (n:Int):Operand:=.const (.int .i64 n)
inductive OP (o:Option Value) (K:Value→Prop):Prop | mk:fG o K→OP o K
inductive OH (o:Option (Value×ae)) (K:Value→ae→Prop):Prop | mk:nG o K→OH o K
inductive aQ (c:Value) (a b:Prop):Prop | mk:pq c a b→aQ c a b
inductive cm (v:Value) (b:Bool) (A B:Prop):Prop | mk:kA v b A B→cm v b A B
inductive ay (Q:(Nat→Value)→ae→Prop) (ls:List Nat) (vs:List Value) (h:ae):Prop | mk:AU Q ls vs h→ay Q ls vs h
inductive cM (init:List Value) (h:ae) (Q:(List Value→ae→Prop)→List Value→ae→Prop):Prop | mk:zL init h Q→cM init h Q
inductive aj (P:Program) (F:FuncId) (args:List Value) (h:ae) (K:Value→ae→Prop):Prop | mk:rN P F args h K→aj P F args h K
inductive uI (P:Program) (x:Value) (args:List Value) (h:ae) (K:Value→ae→Prop):Prop | mk:tD P x args h K→uI P x args h K
inductive AG (P:Program) (g:Value) (ls:List Nat) (vs:List Value) (c:CJ) (h:ae) (K:ae→Prop):Prop | mk:uk P g ls vs c h K→AG P g ls vs c h K
theorem X0:AG=uk:=funext fun _=>funext fun _=>funext fun _=>funext fun _=>funext fun _=>funext fun _=>funext fun _=>propext ⟨fun ⟨h⟩=>h,.mk⟩
theorem AF:OP=fG:=funext fun _=>funext fun _=>propext ⟨fun ⟨h⟩=>h,.mk⟩
theorem Mo:OH=nG:=funext fun _=>funext fun _=>propext ⟨fun ⟨h⟩=>h,.mk⟩
theorem WB:aQ=pq:=funext fun _=>funext fun _=>funext fun _=>propext ⟨fun ⟨h⟩=>h,.mk⟩
theorem Lz:cm=kA:=funext fun _=>funext fun _=>funext fun _=>funext fun _=>propext ⟨fun ⟨h⟩=>h,.mk⟩
theorem CB:ay=AU:=funext fun _=>funext fun _=>funext fun _=>funext fun _=>propext ⟨fun ⟨h⟩=>h,.mk⟩
theorem XY:cM=zL:=funext fun _=>funext fun _=>funext fun _=>propext ⟨fun ⟨h⟩=>h,.mk⟩
theorem uH:aj=rN:=funext fun _=>funext fun _=>funext fun _=>funext fun _=>funext fun _=>propext ⟨fun ⟨h⟩=>h,.mk⟩
theorem Lx:uI=tD:=funext fun _=>funext fun _=>funext fun _=>funext fun _=>funext fun _=>propext ⟨fun ⟨h⟩=>h,.mk⟩
theorem amX (Q:(Nat→Value)→ae→Prop) (ls:List Nat) (vs:List Value) (h:ae):ay Q ls vs h=Q (kj ls vs) h:=by
 rw [CB]
 rfl
theorem az {Q:(Nat→Value)→ae→Prop} {ls:List Nat} {vs:List Value} {h:ae} {A:Prop} (e:Q (kj ls vs) h=A):ay Q ls vs h=A:=(amX _ _ _ _).trans e
def E3 (o:p7) (g:Operand→Value) (k:Value→Prop):Prop:=
 match o with
 | .mv x=>k (g x)
 | .Jg n=>k (.int .i64 n)
 | .fn f a b=>k (.func (.func f) (a.map g).toArray (b.map g).toArray)
 | o=>OP (jx o g) k
theorem Ub (o:p7) (g:Operand→Value) (k:Value→Prop):E3 o g k=fG (jx o g) k:=by
 unfold E3
 split
 ·rfl
 ·rfl
 ·rfl
 ·rw [AF]
def KM (P:Program) (o:gT) (f:Nat→Value) (h:ae) (K:Value→ae→Prop):Prop:=
 match o with
 | .p o=>E3 o (ev f) fun v=>K v h
 | .l o=>OP (fF o (ev f) h) fun v=>K v h
 | .e o=>OH (fZ o (ev f) h) K
 | .call g args=>aj P g (args.map (ev f)) h K
 | .kS x args=>uI P (ev f x) (args.map (ev f)) h K
theorem aDI (P:Program) (o:gT) (f:Nat→Value) (h:ae) (K:Value→ae→Prop):KM P o f h K=dd P o f h K:=by
 cases o <;> simp only [KM,dd,Ub,AF,Mo,uH,Lx]
def DB (P:Program) (l:List je) (K:(Nat→Value)→ae→Prop):(Nat→Value)→ae→Prop:=
 List.rec (motive:=fun _=>(Nat→Value)→ae→Prop) (fun f h=>K f h) (fun o _ ih f h=>KM P o.op f h fun v h'=>ih (dK f o.dst v) h') l
theorem acL (P:Program) (l:List je) (K:(Nat→Value)→ae→Prop):∀(f:Nat→Value) (h:ae),DB P l K f h=wV P l K f h:=by
 induction l with
 | nil=>intro f h;rfl
 | cons o os ih=>
  intro f h
  show KM P o.op f h (fun v h'=>DB P os K (dK f o.dst v) h')=_
  rw [aDI,wV]
  congr 1
  funext v h'
  exact ih _ _
def SF (P:Program) (g:Option (Nat×Bool)) (l:List je) (K:(Nat→Value)→ae→Prop) (f:Nat→Value) (h:ae):Prop:=
 match g with
 | none=>DB P l K f h
 | some (s,b)=>cm (f s) b (DB P l K f h) (K (Ck l f) h)
theorem ayZ (P:Program) (g:Option (Nat×Bool)) (l:List je) (K:(Nat→Value)→ae→Prop) (f:Nat→Value) (h:ae):SF P g l K f h=ta P g l K f h:=by
 unfold SF ta
 split <;> simp only [acL,Lz]
abbrev Wx:=List (Nat×ae)→eP→Value→ae→Prop
def HQ (P:Program) (io:gT) (pre j:Nat) (aN:List (Nat×ae)) (aI:eP) (f:Nat→Value) (h:ae) (next:Wx):Prop:=
 match io with
 | .p po=>E3 po (ev f) fun v=>next aN aI v h
 | .l lo=>OP (fF lo (ev f) h) fun v=>wK pre lo f v aN∧next aN (aI++[(j,lo,f,v)]) v h
 | .e (.fl a)=>OH (fZ (.fl a) (ev f) h) fun v h'=>OP (dZ h' v) fun u=>lC pre h' aI∧next (aN++[(j,h)]) (aI++[(j,.obj (.const v),f,u)]) v h'
 | .e eo=>OH (fZ eo (ev f) h) fun v h'=>lC pre h' aI∧next (aN++[(j,h)]) aI v h'
 | .call g args=>aj P g (args.map (ev f)) h fun v h'=>lC pre h' aI∧next (aN++[(j,h)]) aI v h'
 | .kS x args=>uI P (ev f x) (args.map (ev f)) h fun v h'=>lC pre h' aI∧next (aN++[(j,h)]) aI v h'
theorem atS (P:Program) (io:gT) (pre j:Nat) (aN:List (Nat×ae)) (aI:eP) (f:Nat→Value) (h:ae) (next:Wx):
  HQ P io pre j aN aI f h next=kT P io pre j aN aI f h next:=by
 cases io with
 | e eo=>cases eo <;> simp only [HQ,kT,AF,Mo]
 | _=>simp only [HQ,kT,Ub,AF,uH,Lx]
abbrev Ww:=List (Nat×ae)→eP→(Nat→Value)→ae→Prop
def Dy (P:Program):List j6→Nat→List (Nat×ae)→eP→Ww→(Nat→Value)→ae→Prop
 | [],_,aN,aI,K,f,h=>K aN aI f h
 | o::os,j,aN,aI,K,f,h=>HQ P o.op o.pre j aN aI f h fun aN aI v h'=>Dy P os (j+1) aN aI K (dK f o.dst v) h'
theorem PZ (P:Program):∀(l:List j6) (j:Nat) (aN:List (Nat×ae)) (aI:eP) (K:Ww) (f:Nat→Value) (h:ae),Dy P l j aN aI K f h=oN P l j aN aI K f h
 | [],_,_,_,_,_,_=>rfl
 | o::os,j,aN,aI,K,f,h=>by
  rw [Dy,oN,atS]
  congr 1
  funext aN aI v h'
  exact PZ P os _ _ _ _ _ _
def tL (P:Program):List (Option (Nat×Bool)×List j6)→Nat→List (Nat×ae)→eP→((Nat→Value)→ae→Prop)→(Nat→Value)→ae→Prop
 | [],_,_,_,K,f,h=>K f h
 | (none,l)::gs,j,aN,aI,K,f,h=>Dy P l j aN aI (fun aN aI f h=>tL P gs (j+l.length) aN aI K f h) f h
 | (some (s,b),l)::gs,j,aN,aI,K,f,h=>
  cm (f s) b (Dy P l j aN aI (fun aN aI f h=>tL P gs (j+l.length) aN aI K f h) f h)
   (uW l j aN aI (fun aN aI f h=>tL P gs (j+l.length) aN aI K f h) f h)
theorem Ii (P:Program):∀(gs:List (Option (Nat×Bool)×List j6)) (j:Nat) (aN:List (Nat×ae)) (aI:eP) (K:(Nat→Value)→ae→Prop) (f:Nat→Value) (h:ae),
  tL P gs j aN aI K f h=nY P gs j aN aI K f h
 | [],_,_,_,_,_,_=>rfl
 | (none,l)::gs,j,aN,aI,K,f,h=>by
  have e:(fun aN aI f h=>tL P gs (j+l.length) aN aI K f h)=fun aN aI f h=>nY P gs (j+l.length) aN aI K f h:=by
   funext a b c d;exact Ii P gs _ _ _ _ _ _
  rw [tL,nY,PZ,e]
 | (some (s,b),l)::gs,j,aN,aI,K,f,h=>by
  have e:(fun aN aI f h=>tL P gs (j+l.length) aN aI K f h)=fun aN aI f h=>nY P gs (j+l.length) aN aI K f h:=by
   funext a b c d;exact Ii P gs _ _ _ _ _ _
  rw [tL,nY,PZ,e,Lz]
noncomputable def ak (P:Program) (c:fa):ar→(Nat→Value)→ae→Prop:=
 fa.rec (motive:=fun _=>ar→(Nat→Value)→ae→Prop)
  (fun K f h=>K .normal f h)
  (fun l K f h=>tL P l 0 [] [] (K .normal) f h)
  (fun g l K f h=>SF P g l (K .normal) f h)
  (fun _ _ ia ib K f h=>ia (aF (ib K) K) f h)
  (fun ls _ ic K f h=>ay (ic K) ls (ls.map f) h)
  (fun c _ _ ia ib K f h=>aQ (ev f c) (ia K f h) (ib K f h))
  (fun id _ ic K f h=>ic (bN id K) f h)
  (fun ks ls _ ic K f h=>cM (ls.map f) h fun L xs hx=>ay (ic (aF (fun f' aT=>ks.map f'=ks.map f∧L (ls.map f') aT) K)) (ks++ls) (ks.map f++xs) hx)
  (fun id K f h=>K (.exit id) f h)
  (fun K f h=>K .ret f h)
  (fun g ls c K f h=>AG P (ev f g) ls (ls.map f) c h (K .normal f)) c
theorem axf (P:Program) (c:fa):ak P c=iV P c:=by
 induction c with
 | skip=>rfl
 | HN l=>funext K f h;exact Ii P l 0 [] [] (K .normal) f h
 | ops g l=>funext K f h;exact ayZ P g l (K .normal) f h
 | seq a b rO sQ=>
  funext K f h
  show ak P a (aF (ak P b K) K) f h=iV P a (aF (iV P b K) K) f h
  rw [rO,sQ]
 | cut ls c ih=>
  funext K f h
  show ay (ak P c K) ls (ls.map f) h=AU (iV P c K) ls (ls.map f) h
  rw [ih,CB]
 | cond c a b rO sQ=>
  funext K f h
  show aQ (ev f c) (ak P a K f h) (ak P b K f h)=pq (ev f c) (iV P a K f h) (iV P b K f h)
  rw [rO,sQ,WB]
 | block id c ih=>
  funext K f h
  show ak P c (bN id K) f h=iV P c (bN id K) f h
  rw [ih]
 | loop ks ls c ih=>
  funext K f h
  show cM (ls.map f) h (fun L xs hx=>ay (ak P c (aF (fun f' aT=>ks.map f'=ks.map f∧L (ls.map f') aT) K)) (ks++ls) (ks.map f++xs) hx)=
   zL (ls.map f) h (fun L xs hx=>iV P c (aF (fun f' aT=>ks.map f'=ks.map f∧L (ls.map f') aT) K) (kj (ks++ls) (ks.map f++xs)) hx)
  rw [ih,XY,CB]
  rfl
 | exit id=>rfl
 | ret=>rfl
 | range g ls c=>
  funext K f h
  show AG P (ev f g) ls (ls.map f) c h (K .normal f)=uk P (ev f g) ls (ls.map f) c h (K .normal f)
  rw [X0]
def B8:List ky→(Nat→Value)→ae→(List Value→Prop)→Prop
 | [],_,_,k=>k []
 | .tmp t::rs,f,h,k=>B8 rs f h fun vs=>k (f t::vs)
 | .cell agg n a::rs,f,h,k=>OP (af agg n h (f a)) fun v=>B8 rs f h fun vs=>k (v::vs)
theorem Uz:∀(rs:List ky) (f:Nat→Value) (h:ae) (k:List Value→Prop),B8 rs f h k=v3 rs f h k
 | [],_,_,_=>rfl
 | .tmp _::rs,f,h,k=>Uz rs f h _
 | .cell agg n a::rs,f,h,k=>by
  rw [B8,v3,AF]
  congr 1
  funext v
  exact Uz rs f h _
def aS (rs:List ky) (K:Value→ae→Prop):ar
 | .normal,f,h=>B8 rs f h fun vs=>K (pack vs) h
 | .ret,f,h=>B8 rs f h fun vs=>K (pack vs) h
 | _,_,_=>False
theorem Ys (rs:List ky) (K:Value→ae→Prop):aS rs K=Oh rs K:=by
 funext e f h
 cases e <;> first | rfl | exact Uz rs f h _
theorem bJ {P:Program} {F:FuncId} {N:Nat} {ic:fa} {rs:List ky} {hs:Hints} {h:ae} (hc:bz P F hs=some (N,ic,rs)) {args:List Value} (ha:args.length≤N)
  {K:Value→ae→Prop} (hi:ak P ic (aS rs K) (bt args) h):aj P F args h K:=
 .mk (aen hc ha (by rw [←axf,←Ys];exact hi))
end
section
section aEk
variable {A B : Prop} {K : Value → Prop} {K2 : Value → ae → Prop} {v : Value} {h : ae}
@[simp] theorem ah : OP (some v) K ↔ K v := ⟨fun ⟨h⟩ => h, fun h => .mk h⟩
@[simp] theorem aC : OH (some (v, h)) K2 ↔ K2 v h := ⟨fun ⟨h⟩ => h, fun h => .mk h⟩
theorem F4 {o:Option (Value×ae)} (ho:o=some (v,h)) (hk:K2 v h):OH o K2:=by rw [ho];exact aC.2 hk
@[simp] theorem dX : aQ (.bool true) A B ↔ A := ⟨fun ⟨h⟩ => by simpa [pq] using h, fun h => .mk (by simpa [pq] using h)⟩
@[simp] theorem dV : aQ (.bool false) A B ↔ B := ⟨fun ⟨h⟩ => by simpa [pq] using h, fun h => .mk (by simpa [pq] using h)⟩
theorem At {b:Bool} (h1:b=true→A) (h2:b=false→B):aQ (.bool b) A B:=by cases b <;> simp [h1,h2]
@[simp] theorem bX {p : Prop} [Decidable p] : aQ (.bool (decide p)) A B ↔ (p → A) ∧ (¬ p → B) := by by_cases hp : p <;> simp [hp]
@[simp] theorem FF {p : Prop} [Decidable p] : aQ (.bool (!decide p)) A B ↔ (¬ p → A) ∧ (p → B) := by by_cases hp : p <;> simp [hp]
@[simp] theorem jt : cm (.bool true) true A B ↔ A := ⟨fun ⟨h⟩ => by simpa [kA] using h, fun h => .mk (by simpa [kA] using h)⟩
@[simp] theorem gn : cm (.bool true) false A B ↔ B := ⟨fun ⟨h⟩ => by simpa [kA] using h, fun h => .mk (by simpa [kA] using h)⟩
@[simp] theorem lj : cm (.bool false) true A B ↔ B := ⟨fun ⟨h⟩ => by simpa [kA] using h, fun h => .mk (by simpa [kA] using h)⟩
@[simp] theorem eB : cm (.bool false) false A B ↔ A := ⟨fun ⟨h⟩ => by simpa [kA] using h, fun h => .mk (by simpa [kA] using h)⟩
@[simp] theorem As {b : Bool} : cm undef b A B ↔ B := ⟨fun ⟨h⟩ => by simpa [kA, undef] using h, fun h => .mk (by simpa [kA, undef] using h)⟩
@[simp] theorem eW (a b : Value) : bP (.bool true) a b = some a := rfl
@[simp] theorem dI (a b : Value) : bP (.bool false) a b = some b := rfl
theorem aj.mono {P:Program} {F:FuncId} {args:List Value} {K K':Value→ae→Prop} (hc:aj P F args h K) (hk:∀v h',K v h'→K' v h'):aj P F args h K':=by
 rw [uH] at hc⊢
 exact hc.mono hk
end aEk
abbrev I (n:Int):Value:=.int .i64 n
abbrev B (b:Bool):Value:=.bool b
abbrev cv (c:UInt8):Value:=.int .u8 (c.toNat:Int)
abbrev pt (i o:Nat):Value:=.pointer (some ⟨i,o,none⟩)
theorem wrap64 {n:Int} (h1: -9223372036854775808≤n) (h2:n<9223372036854775808):IntKind.wrap .i64 n=n:=by
 have e:IntKind.wrap .i64 n=if n%18446744073709551616≥9223372036854775808 then n%18446744073709551616-18446744073709551616 else n%18446744073709551616:=by
  simp [IntKind.wrap,IntKind.bits,IntKind.signed]
 rw [e]
 split <;> omega
theorem ama {n:Int} (h1:0≤n) (h2:n<256):IntKind.wrap .u8 n=n:=by
 have e:IntKind.wrap .u8 n=n%256:=by
  simp [IntKind.wrap,IntKind.bits,IntKind.signed]
 rw [e]
 omega
section ints
variable (k : IntKind) (a b : Int)
@[simp] theorem cW : ai .lss (.int k a) (.int k b) = some (.bool (decide (a < b))) := by simp [ai, hI]
@[simp] theorem AM : ai .leq (.int k a) (.int k b) = some (.bool (decide (a ≤ b))) := by simp [ai, hI]
@[simp] theorem fN : ai .gtr (.int k a) (.int k b) = some (.bool (decide (b < a))) := by simp [ai, hI]
@[simp] theorem nS : ai .geq (.int k a) (.int k b) = some (.bool (decide (b ≤ a))) := by simp [ai, hI]
@[simp] theorem jA : ai .eql (.int k a) (.int k b) = some (.bool (decide (a = b))) := by simp [ai, hI]
@[simp] theorem rf : ai .neq (.int k a) (.int k b) = some (.bool (!decide (a = b))) := by simp [ai, hI]
@[simp] theorem cQ : ai .add (.int k a) (.int k b) = some (.int k (k.wrap (a + b))) := by simp [ai, hI]
@[simp] theorem gq : ai .sub (.int k a) (.int k b) = some (.int k (k.wrap (a - b))) := by simp [ai, hI]
@[simp] theorem wI : ai .mul (.int k a) (.int k b) = some (.int k (k.wrap (a * b))) := by simp [ai, hI]
@[simp] theorem qV (b : Bool) : gw .not (.bool b) = some (.bool !b) := rfl
@[simp] theorem aFA : gw .neg (.int k a) = some (.int k (k.wrap (0 - a))) := rfl
@[simp] theorem jN (k' : IntKind) : dh k' (.int k a) = some (.int k' (k'.wrap a)) := rfl
@[simp] theorem Dn (n x y : Bool) : tU n (.bool x) (.bool y) = some (.bool (if n then !(x == y) else x == y)) := rfl
@[simp] theorem eQ (i : Nat) (vs : Array Value) : b9 i (.tuple vs) = vs[i]? := rfl
end ints
section strings
variable (a b : List UInt8)
@[simp] theorem Yy (l : List UInt8) : bytes ⟨l.toArray⟩ = l := ap5 l
@[simp] theorem lN : gv (S a) = some (I a.length) := by simp [gv, S]
@[simp] theorem Of : ai .eql (S a) (S b) = some (.bool (decide (a = b))) := by simp [ai, xu, S]
@[simp] theorem Yq : ai .neq (S a) (S b) = some (.bool (!decide (a = b))) := by simp [ai, xu, S]
theorem yd (h:a.length+b.length≤maxLen):ai .add (S a) (S b)=some (S (a++b)):=by
 simp only [ai,xu,S,Yy,if_pos h]
theorem vL {i:Nat} (h:i<a.length) (k:IntKind):jP (S a) (.int k (i:Int))=some (cv a[i]):=by simp [jP,S,h]
theorem UT {n:Nat} (h:n≤a.length) (k:IntKind):kV (S a) none (some (.int k (n:Int)))=some (S (a.take n)):=by simp [kV,S,rM,sX,h]
theorem B9 {n:Nat} (h:n≤a.length) (k:IntKind):kV (S a) (some (.int k (n:Int))) none=some (S (a.drop n)):=by simp [kV,S,rM,sX,h]
end strings
theorem ayi {σ:Type} {init:List Value} {h:ae} {Q:(List Value→ae→Prop)→List Value→ae→Prop} (enc:σ→List Value) (hp:σ→ae) (J:σ→Prop) (μ:σ→Nat) (s0:σ)
  (e0:enc s0=init) (eh:hp s0=h) (j0:J s0) (hr:∀s,J s→Q (fun ys hy=>∃s',enc s'=ys∧hp s'=hy∧J s'∧μ s'<μ s) (enc s) (hp s)):cM init h Q:=by
 refine .mk ?_
 have least:∀ys hy,(∃s,enc s=ys∧hp s=hy∧J s)→∃m,(∃s,enc s=ys∧hp s=hy∧J s∧μ s=m)∧∀s,enc s=ys→hp s=hy→J s→m≤μ s:=by
  rintro ys hy ⟨s,h1,h2,h3⟩
  have key:∀n,(∃s,enc s=ys∧hp s=hy∧J s∧μ s=n)→∃m,(∃s,enc s=ys∧hp s=hy∧J s∧μ s=m)∧∀s,enc s=ys→hp s=hy→J s→m≤μ s:=by
   intro n
   induction n using Nat.strongRecOn with
   | _ n ih=>
    intro hn
    by_cases aD:∃s,enc s=ys∧hp s=hy∧J s∧μ s<n
    ·obtain ⟨s',a,b,c,d⟩:=aD
     exact ih (μ s') d ⟨s',a,b,c,rfl⟩
    ·exact ⟨n,hn,fun s' a b c=>le_of_not_lt fun d=>aD ⟨s',a,b,c,d⟩⟩
  exact key _ ⟨s,h1,h2,h3,rfl⟩
 classical
 refine ⟨fun ys hy=>∃s,enc s=ys∧hp s=hy∧J s,fun ys hy=>if hJ:∃s,enc s=ys∧hp s=hy∧J s then Classical.choose (least ys hy hJ) else 0,⟨s0,e0,eh,j0⟩,?_⟩
 rintro xs hx hJ
 have D3:=choose_spec (least xs hx hJ)
 simp only [dif_pos hJ]
 generalize Classical.choose (least xs hx hJ)=m at D3
 obtain ⟨⟨s,a,b,c,d⟩,_⟩:=D3
 have:=hr s c
 rw [a,b] at this
 have he:(fun (ys:List Value) (hy:ae)=>(∃s,enc s=ys∧hp s=hy∧J s)∧(if hJ:∃s,enc s=ys∧hp s=hy∧J s then Classical.choose (least ys hy hJ) else 0)<m)=
   fun ys hy=>∃s',enc s'=ys∧hp s'=hy∧J s'∧μ s'<μ s:=by
  funext ys hy
  apply propext
  constructor
  ·rintro ⟨A9,aD⟩
   rw [dif_pos A9] at aD
   obtain ⟨⟨s',a',b',c',d'⟩,_⟩:=choose_spec (least ys hy A9)
   exact ⟨s',a',b',c',by rw [d',d];exact aD⟩
  ·rintro ⟨s',a',b',c',d'⟩
   refine ⟨⟨s',a',b',c'⟩,?_⟩
   rw [dif_pos ⟨s',a',b',c'⟩]
   have:=(choose_spec (least ys hy ⟨s',a',b',c'⟩)).2 s' a' b' c'
   omega
 rw [he]
 exact this
theorem dL {σ:Type} {init:List Value} {h:ae} {Q:(List Value→ae→Prop)→List Value→ae→Prop} (enc:σ→List Value) (hp:σ→ae) (J:σ→Prop) (μ:σ→Nat) (s0:σ)
  (e0:enc s0=init) (eh:hp s0=h) (j0:J s0) (hr:∀s,J s→∀L:List Value→ae→Prop,(∀s',J s'→μ s'<μ s→L (enc s') (hp s'))→Q L (enc s) (hp s)):cM init h Q:=
 ayi enc hp J μ s0 e0 eh j0 fun s hs=>hr s hs _ fun s' h1 h2=>⟨s',rfl,rfl,h1,h2⟩
def EX (h h':ae):Prop:=h.length≤h'.length∧∀i,i<h.length→h'[i]?=h[i]?
theorem EX.refl (h:ae):EX h h:=⟨le_refl _,fun _ _=>rfl⟩
theorem EX.trans {a b c:ae} (h:EX a b) (k:EX b c):EX a c:=⟨Nat.le_trans h.1 k.1,fun i hi=>(k.2 i (Nat.lt_of_lt_of_le hi h.1)).trans (h.2 i hi)⟩
theorem EX.append (h g:ae):EX h (h++g):=⟨by simp,fun i hi=>getElem?_append_left hi⟩
theorem EX.push {a h:ae} (k:EX a h) (g:ae):EX a (h++g):=k.trans (.append h g)
theorem EX.set {a h:ae} (k:EX a h) {i:Nat} (hi:a.length≤i) (o:aq):EX a (h.set i o):=⟨by simpa using k.1,fun j hj=>by rw [getElem?_set_ne (by omega)];exact k.2 j hj⟩
theorem EX.get {a h:ae} (k:EX a h) {i:Nat} {o:aq} (hi:a[i]?=some o):h[i]?=some o:=by rw [k.2 i (bK hi).1];exact hi
theorem EX.cells {a h:ae} (k:EX a h) {i:Nat} {xs:List Value} (hi:aR a i=some xs):aR h i=some xs:=by
 unfold aR at hi⊢
 have aD:i<a.length:=by
  apply byContradiction
  intro hc
  rw [getElem?_eq_none (le_of_not_lt hc)] at hi
  simp at hi
 rw [k.2 i aD]
 exact hi
def fL:Value→Bool
 | .bool _ | .int .. | .string _ | .nilFunc | .nilIface=>true
 | .pointer none | .map none=>true
 | .slice none 0 0=>true
 | _=>false
theorem fL.rel {ρ av:aK} {v v':Value} (h:fL v=true) (hv:ax ρ v v'):ax av v v':=by
 unfold fL at h
 split at h
 ·cases hv;exact .bool _
 ·cases hv;exact .int _ _
 ·cases hv;exact .string _
 ·cases hv;exact .nilFunc
 ·cases hv;exact .nilIface
 ·cases hv;exact .ue
 ·cases hv;exact .uc
 ·cases hv;exact .qO
 ·cases h
def oI (V:Nat→Value):Prop:=∀(ρ av:aK) (i j:Nat) (v':Value),av j=ρ i→ax ρ (V i) v'→ax av (V j) v'
theorem oI.fL {v:Value} (h:fL v=true):oI fun _=>v:=fun _ _ _ _ _ _ hv=>fL.rel h hv
theorem oI.pt (o:Nat):oI fun i=>pt i o:=by
 intro ρ av i j v' e hv
 cases hv with
 | ptr hr=>exact .ptr (by rw [e];exact hr)
theorem oI.sl (e:TypeId) (o n:Nat):oI fun i=>sl e i o n:=by
 intro ρ av i j v' he hv
 cases hv with
 | slice hr a b c d=>exact .slice (by rw [he];exact hr) a b c d
inductive xT:List (Nat→Value)→Prop
 | nil:xT []
 | cons {V:Nat→Value} {l:List (Nat→Value)}:oI V→xT l→xT (V::l)
theorem xT.rel {l:List (Nat→Value)} (h:xT l) {ρ av:aK} {i j:Nat} (e:av j=ρ i):∀{ys:List Value},bF ρ (l.map (· i)) ys→bF av (l.map (· j)) ys:=by
 induction h with
 | nil=>intro ys hv;cases hv;exact .nil
 | cons hV _ ih=>intro ys hv;cases hv with | cons a b=>exact .cons (hV _ _ _ _ _ e a) (ih b)
theorem oI.tuple {l:List (Nat→Value)} (h:xT l):oI fun i=>.tuple (l.map (· i)).toArray:=by
 intro ρ av i j v' e hv
 cases hv with
 | tuple hs hr=>
  rename_i fx
  have:=h.rel e (bF.ti hs hr)
  have:=ax.rU this
  simpa using this
theorem oI.agg {l:List (Nat→Value)} (h:xT l) (hc:∀j,∀V∈l,gy (V j)=true):oI fun i=>.agg (l.map (· i)).toArray:=by
 intro ρ av i j v' e hv
 cases hv with
 | agg hs h1 hr=>
  rename_i fx
  have:=h.rel e (bF.ti hs hr)
  have:=ax.AK this (by
   intro x hx
   simp only [mem_map] at hx
   obtain ⟨V,hV,rfl⟩:=hx
   exact hc j V hV)
  simpa using this
section gc
variable {P : Program} {F : FuncId} {args : List Value} {h : ae}
def vW:aq→Bool
 | .ro _ xs | .arr _ xs=>xs.all fL
 | .smap es=>es.all fun p=>fL p.2
 | .kH _ es=>es.all fun p=>fL p.2
 | .cR _ _ es=>es.all fun p=>fL p.2.2
 | _=>false
theorem vW.rel {ρ av:aK} {w:World} {r:RI} {o:aq} (hp:vW o=true) (h:kY ρ w r o):kY av w r o:=by
 have cells:∀{c:Array Value} {sh:Nat} {xs:List Value},xs.all fL=true→fX ρ c sh xs→fX av c sh xs:=by
  intro c sh xs hs hc j x hj
  obtain ⟨h1,y,hy,hr⟩:=hc j x hj
  rw [all_eq_true] at hs
  exact ⟨h1,y,hy,fL.rel (hs x (mem_of_getElem? hj)) hr⟩
 cases o with
 | ro e xs=>obtain ⟨h1,c,t,fr,h2,h3,h4⟩:=h;exact ⟨h1,c,t,fr,h2,h3,cells hp h4⟩
 | arr e xs=>obtain ⟨h1,h0,c,h2,h3,h4⟩:=h;exact ⟨h1,h0,c,h2,h3,cells hp h4⟩
 | smap es=>
  obtain ⟨aJ,clock,h1,h2,h3⟩:=h
  refine ⟨aJ,clock,h1,h2,fun j k v hj=>?_⟩
  obtain ⟨en,e1,e2,e3⟩:=h3 j k v hj
  simp only [vW,all_eq_true] at hp
  exact ⟨en,e1,e2,fL.rel (hp (k,v) (mem_of_getElem? hj)) e3⟩
 | kH kd es=>
  obtain ⟨aJ,clock,h1,h2,h3⟩:=h
  refine ⟨aJ,clock,h1,h2,fun j k v hj=>?_⟩
  obtain ⟨en,e1,e2,e3⟩:=h3 j k v hj
  simp only [vW,all_eq_true] at hp
  exact ⟨en,e1,e2,fL.rel (hp (k,v) (mem_of_getElem? hj)) e3⟩
 | cR g c es=>
  obtain ⟨h0,aJ,h1,h2,h3⟩:=h
  refine ⟨h0,aJ,h1,h2,fun j b k v hj=>?_⟩
  obtain ⟨e0,en,e1,e2,ym,e3⟩:=h3 j b k v hj
  simp only [vW,all_eq_true] at hp
  exact ⟨e0,en,e1,e2,ym,fL.rel (hp (b,k,v) (mem_of_getElem? hj)) e3⟩
 | iter m s n l=>cases hp
 | loop c ls vs=>cases hp
 | dead=>cases hp
theorem atn {K:Value→ae→Prop} {v:Value} {h':ae} (hV:oI fun _=>v) (hc:wz P F args [] v h') (ha:args.all fL=true) (hk:K v h):aj P F args h K:=by
 rw [uH]
 refine ⟨v,h,?_,hk⟩
 intro ρ args' w hv H
 have IZ:∀{xs ys:List Value},xs.all fL=true→bF ρ xs ys→bF (fun _=>none) xs ys:=by
  intro xs ys hs hr
  induction hr with
  | nil=>exact .nil
  | cons a _ ih=>simp only [List.all_cons,and_eq_true] at hs;exact .cons (fL.rel hs.1 a) (ih hs.2)
 have H0:aZ P (fun _=>none) [] w:=⟨fun i r hi=>(by cases hi),fun i j r s hi=>(by cases hi),fun i r hi=>(by cases hi)⟩
 refine (hc _ args' w (IZ ha hv) H0).mono ?_
 rintro e w' ⟨v',av,rfl,kG,H',T⟩
 have dY:∀b,b<w.heap.size→w'.heap[b]?=w.heap[b]?:=fun b hb=>T.hY b hb fun j s hj=>(by cases hj)
 refine ⟨v',ρ,rfl,hV av ρ h'.length h.length v' (by rw [H.none,H'.none]) kG,⟨?_,H.inj,H.aX⟩,?_⟩
 ·intro k r hr
  obtain ⟨o,ho,nC⟩:=H.obj k r hr
  refine ⟨o,ho,?_⟩
  by_cases hd:o=.dead
  ·subst hd;trivial
  ·exact nC.mono (.refl _) (dY _ (BV H hr ⟨o,ho,hd⟩))
 ·exact {
   ext:=.refl _
   len:=le_refl _
   jC:=fun k r hr=>H.lt hr
   kinds:=fun _ _ h=>h
   fresh:=fun k r h1 h2=>by rw [h1] at h2;cases h2
   iL:=T.iL
   hY:=fun b hb _=>dY b hb
   os:=T.os
   tape:=T.tape
   output:=T.output }
end gc
end
section
open Go.ChangeShapes Go.WideShapes Go.ChangeAt Go.RowKit
def pU (h:ae):Prop:=∀i,¬cB h i
section
variable {P : Program} {W : World} {ρ : aK} {h : ae}
theorem aZ.start (P:Program) (W:World):aZ P (fun _=>Option.none) [] W:=⟨fun i r hi=>(by cases hi),fun i j r s hi=>(by cases hi),fun i r hi=>(by cases hi)⟩
theorem pU.start:pU []:=fun i hm=>by unfold cB at hm;simp at hm
theorem aZ.Ya (H:aZ P ρ h W) (hr:pU h) {r:RI} (he:r.aX=P.cellsOf r.elem) {o:aq} (dG:o=.dead∨∃e xs,o=.ro e xs) (ho:kY (ρ.add h.length r) W r o):
  aZ P (ρ.add h.length r) (h++[o]) W∧pU (h++[o])∧ρ.le (ρ.add h.length r):=by
 have kF:pU (h++[o]):=by
  intro i hm
  unfold cB at hm
  by_cases hi:i<h.length
  ·rw [getElem?_append_left hi] at hm
   exact hr i hm
  ·by_cases he:i=h.length
   ·subst he
    have e:(h++[o])[h.length]?=some o:=by simp
    rw [e] at hm
    rcases dG with rfl | ⟨_,_,rfl⟩ <;> rcases hm with ⟨_,_,h1⟩ | ⟨_,h1⟩ | ⟨_,_,_,h1⟩ | ⟨_,_,h1⟩ | ⟨_,_,_,h1⟩ | ⟨_,_,_,_,h1⟩ <;> cases h1
   ·rw [getElem?_eq_none (by simp;omega)] at hm
    rcases hm with ⟨_,_,h1⟩ | ⟨_,h1⟩ | ⟨_,_,_,h1⟩ | ⟨_,_,h1⟩ | ⟨_,_,_,h1⟩ | ⟨_,_,_,_,h1⟩ <;> cases h1
 refine ⟨⟨?_,fun i j r s _ _ _ hm=>absurd hm (kF i),?_⟩,kF,aK.vR H.none⟩
 ·intro i s hi
  unfold aK.add at hi
  split at hi
  ·rename_i e
   subst e
   cases hi
   exact ⟨o,by simp,ho⟩
  ·obtain ⟨o',h1,h2⟩:=H.obj i s hi
   exact ⟨o',by rw [getElem?_append_left (H.lt hi)];exact h1,h2.mono (aK.vR H.none) rfl⟩
 ·intro i s hi
  unfold aK.add at hi
  split at hi
  ·cases hi;exact he
  ·exact H.aX i s hi
theorem fL.self {v:Value} (hs:fL v=true) (ρ:aK):ax ρ v v:=by
 unfold fL at hs
 split at hs
 ·exact .bool _
 ·exact .int _ _
 ·exact .string _
 ·exact .nilFunc
 ·exact .nilIface
 ·exact .ue
 ·exact .uc
 ·exact .qO
 ·cases hs
theorem fL.cell {v:Value} (hs:fL v=true):gy v=true:=by
 unfold fL at hs
 split at hs <;> first | rfl | cases hs
variable {H : Type} {enc : TypeId × Value → H}
theorem addr_eq {a:Addr} (hs:a.spot=none) (n:Nat):a.add n=⟨a.block,a.off+n,none⟩:=by
 obtain ⟨b,o,s⟩:=a
 simp only at hs
 subst hs
 unfold Addr.add
 split
 ·rename_i h;subst h;rfl
 ·rfl
theorem auI {t e:TypeId} (ht:P.underlying t=some (.slice e)) (jm:P.cellsOf e≠0)
  (flat:∀n cs y,DataW.trod enc P W 0 (fun _=>true) true n e cs=some y→cs.length=P.cellsOf e∧∀x∈cs,fL x=true)
  {fuel:Nat} {v:Value} {x:DataW H×List MemPlace} (hd:DataW.trod enc P W 0 (fun _=>true) true fuel t [v]=some x) (aG:∀(a:Addr) (len cap:Nat),v=.slice (some a) len cap→a.spot=none) (HR:aZ P ρ h W) (kF:pU h):
  ∃(av:aK) (g:ae) (v':Value) (n:Nat) (xs:List Value),ρ.le av∧aZ P av (h++g) W∧pU (h++g)∧ax av v' v∧gy v'=true∧
   ((v'=.slice none 0 0∧n=0)∨∃i,v'=sl e i 0 n∧(n=0∨aR (h++g) i=some xs))∧xs.length=n*P.cellsOf e∧(∀y∈xs,fL y=true)∧
   ∀i,i<n→∃m y,DataW.trod enc P W 0 (fun _=>true) true m e ((xs.drop (i*P.cellsOf e)).take (P.cellsOf e))=some y:=by
 rcases DataW.trod_slice ht hd with ⟨h1,_⟩ | ⟨a,len,cap,auG,rest,n,_,h1,_,hb,hl,hm,hlen,yK,zf,_⟩
 ·obtain rfl:v=.slice none 0 0:=by simpa using h1
  exact ⟨ρ,[],.slice none 0 0,0,[],.refl _,by simpa using HR,by simpa using kF,.qO,rfl,.inl ⟨rfl,rfl⟩,by simp,by simp,fun i hi=>by omega⟩
 ·obtain rfl:v=.slice (some a) len cap:=by simpa using h1
  have BB:a.spot=none:=aG a len cap rfl
  obtain ⟨Q6,hr⟩:=zf rfl
  -- every aEW cells lie there
  have each:∀i,i<cap→∃cs y,W.cells? 0 (a.add (i*P.cellsOf e)) (P.cellsOf e)=some cs∧DataW.trod enc P W 0 (fun _=>true) true n e cs=some y:=by
   intro i hi
   have kB:∃y,(W.cells? 0 (a.add (i*P.cellsOf e)) (P.cellsOf e)).bind (DataW.trod enc P W 0 (fun _=>true) true n e)=some y:=by
    by_cases bC:i<len
    ·rw [yK i bC,getElem?_eq_getElem (by omega)]
     exact ⟨_,rfl⟩
    ·have:=hr (i-len) (by omega)
     rw [show len+(i-len)=i by omega] at this
     rw [this,getElem?_eq_getElem (by omega)]
     exact ⟨_,rfl⟩
   obtain ⟨y,hy⟩:=kB
   rw [Option.bind_eq_some_iff] at hy
   obtain ⟨cs,h1,h2⟩:=hy
   exact ⟨cs,y,h1,h2⟩
  by_cases uY:cap=0
  ·subst uY
   obtain rfl:len=0:=by omega
   obtain ⟨H',Q7,hle⟩:=HR.Ya kF (r:=⟨a.block,a.off,e,P.cellsOf e,a.off⟩) rfl (.inl rfl) trivial
   refine ⟨_,[.dead],sl e h.length 0 0,0,[],hle,H',Q7,?_,rfl,.inr ⟨_,rfl,.inl rfl⟩,by simp,by simp,fun i hi=>by omega⟩
   obtain ⟨ab,ao,uM⟩:=a
   simp only at BB
   subst BB
   exact ax.slice (ρ:=ρ.add h.length ⟨ab,ao,e,P.cellsOf e,ao⟩) (i:=h.length) (o:=0) (n:=0) (o':=ao) (c':=0) (r:=⟨ab,ao,e,P.cellsOf e,ao⟩) (by simp [aK.add]) (.inl rfl) (le_refl _) (by unfold maxLen;omega) (by simp)
  ·have Bl:0<P.cellsOf e:=by omega
   -- gR block
   have avy:∃c tt fr,W.heap[a.block]?=some (.cells c tt fr):=by
    obtain ⟨cs,y,h1,h2⟩:=each 0 (by omega)
    obtain ⟨_,g2,g3⟩:=World.cells?_some h1
    have:=g3 0 Bl
    rw [Nat.zero_mul,addr_eq BB 0,addr_eq rfl 0,getElem?_eq_getElem (by omega)] at this
    unfold World.cell? at this
    split at this
    ·rename_i c tt fr hh;exact ⟨c,tt,fr,hh⟩
    ·cases this
   obtain ⟨c,tt,fr,sD⟩:=avy
   have get:∀i cs,W.cells? 0 (a.add (i*P.cellsOf e)) (P.cellsOf e)=some cs→∀j,j<P.cellsOf e→c[a.off+(i*P.cellsOf e+j)]?=cs[j]?:=by
    intro i cs h1 j hj
    obtain ⟨_,g2,g3⟩:=World.cells?_some h1
    have:=g3 j hj
    rw [addr_eq BB,addr_eq rfl] at this
    simp only [World.cell?,sD] at this
    simpa [Nat.add_assoc] using this
   have here:∀j,j<cap*P.cellsOf e→∃y,c[a.off+j]?=some y∧fL y=true:=by
    intro j hj
    have hi:j / P.cellsOf e<cap:=(Nat.div_lt_iff_lt_mul Bl).2 hj
    obtain ⟨cs,y,h1,h2⟩:=each _ hi
    obtain ⟨f1,f2⟩:=flat n cs y h2
    have oS:j%P.cellsOf e<P.cellsOf e:=Nat.mod_lt _ Bl
    have:=get _ cs h1 (j%P.cellsOf e) oS
    rw [show j / P.cellsOf e*P.cellsOf e+j%P.cellsOf e=j by rw [Nat.mul_comm];exact Nat.div_add_mod j _] at this
    rw [this,getElem?_eq_getElem (by omega)]
    exact ⟨_,rfl,f2 _ (List.getElem_mem _)⟩
   let xs:=(List.range (len*P.cellsOf e)).map fun j=>c.getD (a.off+j) Go.undef
   have gZ:xs.length=len*P.cellsOf e:=by simp [xs]
   have hlc:len*P.cellsOf e≤cap*P.cellsOf e:=Nat.mul_le_mul_right _ hl
   have Rm:∀j,j<len*P.cellsOf e→xs[j]?=c[a.off+j]?:=by
    intro j hj
    obtain ⟨y,h1,_⟩:=here j (by omega)
    simp [xs,hj,h1]
   have pL:∀y∈xs,fL y=true:=by
    intro y hy
    obtain ⟨j,hj⟩:=List.getElem?_of_mem hy
    have aD:j<len*P.cellsOf e:=by have:=(bK hj).1;omega
    obtain ⟨z,h1,h2⟩:=here j (by omega)
    rw [Rm j aD,h1] at hj
    cases hj
    exact h2
   have awB:a.off+cap*P.cellsOf e≤c.size:=by
    have aFj:0<cap*P.cellsOf e:=Nat.mul_pos (by omega) Bl
    obtain ⟨y,h1,_⟩:=here (cap*P.cellsOf e-1) (by omega)
    have:=(Array.getElem?_eq_some_iff.1 h1).1
    omega
   obtain ⟨H',Q7,hle⟩:=HR.Ya kF (r:=⟨a.block,a.off,e,P.cellsOf e,c.size⟩) rfl (.inr ⟨e,xs,rfl⟩) ⟨rfl,c,tt,fr,sD,rfl,fun j y hj=>by
    have aD:j<len*P.cellsOf e:=by have:=(bK hj).1;omega
    rw [Rm j aD] at hj
    obtain ⟨z,h1,h2⟩:=here j (by omega)
    rw [h1] at hj
    cases hj
    exact ⟨fL.cell h2,_,h1,fL.self h2 _⟩⟩
   refine ⟨_,[.ro e xs],sl e h.length 0 len,len,xs,hle,H',Q7,?_,rfl,.inr ⟨_,rfl,.inr (by simp [aR])⟩,gZ,pL,?_⟩
   ·obtain ⟨ab,ao,uM⟩:=a
    simp only at BB
    subst BB
    exact ax.slice (ρ:=ρ.add h.length ⟨ab,ao,e,P.cellsOf e,c.size⟩) (i:=h.length) (o:=0) (n:=len) (o':=ao) (c':=cap) (r:=⟨ab,ao,e,P.cellsOf e,c.size⟩) (by simp [aK.add]) (.inl rfl) hl hm awB
   ·intro i hi
    obtain ⟨cs,y,h1,h2⟩:=each i (by omega)
    refine ⟨n,y,?_⟩
    have fT:=(flat n cs y h2).1
    have QP:(i+1)*P.cellsOf e≤len*P.cellsOf e:=Nat.mul_le_mul_right _ hi
    rw [Nat.add_mul,Nat.one_mul] at QP
    have:(xs.drop (i*P.cellsOf e)).take (P.cellsOf e)=cs:=by
     apply List.ext_getElem?
     intro j
     rw [List.getElem?_take]
     by_cases hj:j<P.cellsOf e
     ·rw [if_pos hj,List.getElem?_drop,Rm _ (by omega),get i cs h1 j hj]
     ·rw [if_neg hj,getElem?_eq_none (by omega)]
    rw [this]
    exact h2
theorem aD4 {e:TypeId} {k:IntKind} (he:P.underlying e=some (.int k)) (hc:P.cellsOf e=1):∀n cs y,DataW.trod enc P W 0 (fun _=>true) true n e cs=some y→cs.length=P.cellsOf e∧∀x∈cs,fL x=true:=by
 intro n cs y h
 obtain ⟨m,rfl,_,_⟩:=DataW.trod_int he h
 exact ⟨by rw [hc];rfl,by simp [fL]⟩
theorem alZ (hl:laidOutB P=true) {W':World} (hb:Below W.heap.size W W'):∀{ts:List TypeId} {vs:List Value} {ds:List (DataW H)} {p:List MemPlace},(∀t∈ts,P.readableRec t=true∧t<P.types.size)→
  DataW.TrodAll enc P W 0 (fun _=>true) true ts vs ds p→(∀x∈p,x.block<W.heap.size)→DataW.TrodAll enc P W' 0 (fun b=>decide (b<W.heap.size)) true ts vs ds p
 | [],vs,ds,p,_,h,_=>by
  obtain ⟨rfl,rfl,rfl⟩:=trodAll_nil h
  exact trodAll_mk0
 | t::ts,vs,ds,p,hr,h,aD=>by
  obtain ⟨v,jG,d,ds',a,b,rfl,rfl,rfl,h1,h2⟩:=trodAll_cons h
  exact trodAll_cons_mk (Below.trod hl (hr t (by simp)).1 (hr t (by simp)).2 h1 hb fun x hx=>aD x (by simp [hx]))
   (alZ hl hb (fun t ht=>hr t (by simp [ht])) h2 fun x hx=>aD x (by simp [hx]))
theorem azd (hl:laidOutB P=true) {f:Func} {s:ChangeSpec} {t4:TypeId} {W':World} {args:Array Value} {ds gs:List (DataW H)} {before:List MemPlace} (hW:DataW.Whole enc P f.params.toList s.vars false W args.toList ds gs before)
  (hv:s.vars=[]) (ht4:P.underlying t4=some .bool) (hr:f.resultTypes=#[t4]) (hfn:∀Qa,Qa=[]→s.fn H (ds++Qa)={ results:=[.lit (.bool true)],args:=ds })
  (awp:∀t∈f.params.toList,P.readableRec t=true∧t<P.types.size) (hb:Below W.heap.size W W'):s.post enc P f false true false false W args (.bool true) W':=by
 have Ir:=hW
 obtain ⟨p,q,hA,hV,rfl,_,_⟩:=hW
 rw [hv] at hV
 obtain ⟨rfl,rfl⟩:=trodVars_none hV
 have aD:∀x∈p,x.block<W.heap.size:=fun x hx=>Ir.lt x (by simp [hx])
 have e:=hfn [] rfl
 refine ⟨ds,[],p++[],[],p,[],Ir,?_,?_,?_,hb.frame _,fun h=>by cases h⟩
 ·rw [e,hr]
  exact trodAll_mk1 (shut_bool ht4 true)
 ·rw [e]
  exact alZ hl hb awp hA aD
 ·rw [e,hv]
  rfl
end
end
section
theorem Aa (k:IntKind) (a b:Nat) (hb:b≠0):ai .rem (.int k (a:Int)) (.int k (b:Int))=some (.int k ((a%b:Nat):Int)):=by
 have h:¬((b:Int)=0):=by omega
 simp only [ai,hI,if_true,if_neg h]
 congr 2
structure NS (h:ae) (v:Value) (k:IntKind) (ns:List Int):Prop where
 len:bj v=some (I ns.length)
 get:∀i (hi:i<ns.length),∃b o,bc 1 v (I i)=some (pt b o)∧af false 1 h (pt b o)=some (.int k ns[i])
 le:ns.length≤maxLen
theorem ayg {h h':ae} (k:EX h h') {agg:Bool} {n:Nat} {a v:Value} (hl:af agg n h a=some v):af agg n h' a=some v:=by
 unfold af at hl⊢
 split at hl
 ·rename_i i o
  cases hc:aR h i with
  | none=>rw [hc] at hl;cases hl
  | some xs=>rw [hc] at hl;rw [k.cells hc];exact hl
 ·cases hl
theorem NS.mono {h h':ae} {v:Value} {k:IntKind} {ns:List Int} (e:EX h h') (p:NS h v k ns):NS h' v k ns:=
 ⟨p.len,fun j hj=>let ⟨i,o,a,b⟩:=p.get j hj;⟨i,o,a,ayg e b⟩,p.le⟩
theorem NS.nil (h:ae) (k:IntKind):NS h (.slice none 0 0) k []:=⟨rfl,fun i hi=>by simp at hi,by simp⟩
theorem NS.sl {h:ae} {e:TypeId} {i:Nat} {k:IntKind} {ns:List Int} (hc:ns=[]∨aR h i=some (ns.map (Value.int k))) (hl:ns.length≤maxLen):NS h (sl e i 0 ns.length) k ns:=by
 refine ⟨rfl,fun j hj=>⟨i,j,?_,?_⟩,hl⟩
 ·have:(0:Int)≤(j:Int)∧(j:Int)<(ns.length:Int):=by omega
  simp [Go.Sim.sl,bc,this]
 ·have hc:=hc.resolve_left (by rintro rfl;simp at hj)
  simp [af,hc,cf,hj]
section
open Go.ChangeShapes
variable {P : Program} {W : World} {ρ : aK} {h : ae} {H : Type} {enc : TypeId × Value → H}
theorem aeC {e:TypeId} {k:IntKind} (he:P.underlying e=some (.int k)):∀{n:Nat} {xs:List Value},xs.length=n*1→(∀i,i<n→∃m y,DataW.trod enc P W 0 (fun _=>true) true m e ((xs.drop (i*1)).take 1)=some y)→
  ∃ns:List Int,ns.length=n∧xs=ns.map (Value.int k)∧∀x∈ns,(Lit.int k x).wf=true
 | 0,xs,hl,_=>⟨[],rfl,by simpa using hl,by simp⟩
 | n+1,xs,hl,hp=>by
  match xs,hl with
  | x::xs,hl=>
   obtain ⟨m,y,hy⟩:=hp 0 (by omega)
   simp at hy
   obtain ⟨z,hz,_,hw⟩:=DataW.trod_int he hy
   simp at hz
   subst hz
   obtain ⟨ns,h1,h2,h3⟩:=aeC he (n:=n) (xs:=xs) (by simp at hl;omega) fun i hi=>by
    have:=hp (i+1) (by omega)
    rw [show (i+1)*1=i*1+1 by omega] at this
    simpa using this
   exact ⟨z::ns,by simp [h1],by simp [h2],by intro a ha;rcases mem_cons.1 ha with rfl | ha;exact hw;exact h3 a ha⟩
end
end
section
def Ce (P:Program) (o:gT) (f:Nat→Value) (h:ae) (K:Value→ae→Prop):Prop:=
 match o with
 | .e (.next it)=>∃l,zR h (ev f it)=some l∧∀p∈l,K p.1 p.2
 | o=>dd P o f h K
def A6 (P:Program):List je→((Nat→Value)→ae→Prop)→(Nat→Value)→ae→Prop
 | [],K,f,h=>K f h
 | o::os,K,f,h=>Ce P o.op f h fun v h'=>A6 P os K (dK f o.dst v) h'
def Jy (P:Program) (g:Option (Nat×Bool)) (l:List je) (K:(Nat→Value)→ae→Prop) (f:Nat→Value) (h:ae):Prop:=
 match g with
 | none=>A6 P l K f h
 | some (s,b)=>ta P (some (s,b)) l K f h
noncomputable def lM (P:Program) (c:fa):ar→(Nat→Value)→ae→Prop:=
 fa.rec (motive:=fun _=>ar→(Nat→Value)→ae→Prop)
  (fun K f h=>K .normal f h)
  (fun l K f h=>nY P l 0 [] [] (K .normal) f h)
  (fun g l K f h=>Jy P g l (K .normal) f h)
  (fun _ _ ia ib K f h=>ia (aF (ib K) K) f h)
  (fun ls _ ic K f h=>AU (ic K) ls (ls.map f) h)
  (fun c _ _ ia ib K f h=>pq (ev f c) (ia K f h) (ib K f h))
  (fun id _ ic K f h=>ic (bN id K) f h)
  (fun ks ls _ ic K f h=>zL (ls.map f) h fun L xs hx=>ic (aF (fun f' aT=>ks.map f'=ks.map f∧L (ls.map f') aT) K) (kj (ks++ls) (ks.map f++xs)) hx)
  (fun id K f h=>K (.exit id) f h)
  (fun K f h=>K .ret f h)
  (fun g ls c K f h=>uk P (ev f g) ls (ls.map f) c h (K .normal f)) c
section
variable {P : Program} {w : World} {ρ : aK} {h : ae}
theorem ayG (H:aZ P ρ h w) {it Ei:Value} {l:List (Value×ae)} (hn:zR h it=some l) (hv:ax ρ it Ei) (ty:TypeId):
  ∃p∈l,∃v' w',(Instr.next Ei false ty).run P w=.ok v' w'∧ax ρ p.1 v'∧aZ P ρ p.2 w'∧Tr ρ h w ρ p.2 w':=by
 unfold zR at hn
 split at hn
 ·rename_i j
  split at hn
  ·rename_i i kl seen last sH
   split at hn
   ·rename_i g c es iF
    split at hn
    ·cases hn
    rename_i qj
    simp only [Option.some.injEq] at hn
    cases hv with
    | ptr hr=>
     rename_i r
     obtain ⟨o,ho,nC⟩:=H.obj j r hr
     rw [sH] at ho
     cases ho
     obtain ⟨xk,rm,IV,hb⟩:=nC
     obtain ⟨aJ,hm,E⟩:=H.AY IV iF
     rw [xk]
     -- gR entries,one by one
     have av5:aJ.toList.map (fun e=>e.born)=es.map fun e=>e.1:=by
      apply List.ext_getElem?
      intro q
      simp only [List.getElem?_map]
      by_cases hq:q<es.length
      ·have he:=getElem?_eq_getElem hq
       generalize es[q]=x at he
       obtain ⟨b,k,v⟩:=x
       obtain ⟨_,en,g2,g3,g4,g5⟩:=E.get q b k v he
       rw [he,getElem?_toList,g2]
       simp [g4]
      ·have h1:aJ.toList[q]?=none:=getElem?_eq_none (by rw [Array.length_toList,E.size];omega)
       rw [h1,getElem?_eq_none (by omega)];rfl
     have hz:∀en∈aJ.toList,∃e∈es,e.1=en.born∧e.2.1=en.key∧ax ρ e.2.2 en.val:=by
      intro en Bj
      obtain ⟨q,hq,e'⟩:=List.mem_iff_getElem.1 Bj
      have:aJ[q]?=some en:=by rw [←getElem?_toList,getElem?_eq_getElem hq,e']
      obtain ⟨v,q1,_,q3⟩:=E.inv this
      exact ⟨_,mem_of_getElem? q1,rfl,rfl,q3⟩
     have rK:∀e∈es,∃en∈aJ.toList,e.1=en.born:=by
      intro e he
      have:e.1∈es.map fun e=>e.1:=mem_map.2 ⟨e,he,rfl⟩
      rw [←av5] at this
      obtain ⟨en,h1,h2⟩:=mem_map.1 this
      exact ⟨en,h1,h2.symm⟩
     -- uz gR aFq aFB
     let left:=aJ.filter fun e=> !(seen.toArray.contains e.born)
     let old:=left.filter fun e=>decide (e.born<kl)
     let new:=left.filter fun e=>decide (e.born≥kl)
     let pj:Array (Option MapEntry):=(if old.isEmpty then #[none] else #[])++(old++new).map some
     have pB:(!seen.toArray.isEmpty&& !aJ.isEmpty&&aJ.all fun e=>decide (e.born≥last))=false:=by
      rw [Bool.eq_false_iff]
      intro hx
      apply qj
      simp only [and_eq_true] at hx⊢
      obtain ⟨⟨x1,x2⟩,x3⟩:=hx
      refine ⟨⟨by simpa using x1,?_⟩,?_⟩
      ·have:aJ.size≠0:=by simpa [Array.isEmpty] using x2
       rw [E.size] at this
       simpa [List.isEmpty_iff] using this
      ·rw [all_eq_true]
       intro e he
       obtain ⟨en,h1,h2⟩:=rK e he
       rw [Array.all_eq_true'] at x3
       have:=x3 en (by simpa using h1)
       rw [h2]
       exact this
     have jm:0<pj.size:=by
      simp only [pj]
      by_cases ho:old.isEmpty=true
      ·rw [if_pos ho];simp;omega
      ·rw [if_neg ho]
       have:old.size≠0:=by simpa [Array.isEmpty] using ho
       simp;omega
     have bU:(getObj r.bw).run P w=.ok (.mapIter (some rm.bw) kl seen.toArray last) w:=by simp [getObj,Sem.run,hb]
     have Qv:(getObj rm.bw).run P w=.ok (.map aJ c) w:=by simp [getObj,Sem.run,hm]
     obtain ⟨q,w1,hq,Qj,Rj,hT1⟩:∃q w1,q<pj.size∧(choose (.mapNext pj.size)).run P w=.ok q w1∧(w1.heap=w.heap∧aZ P ρ h w1)∧Tr ρ h w ρ h w1:=by
      by_cases hfo:(Question.mapNext pj.size).forced=true
      ·exact ⟨0,w,jm,by simp [choose,Sem.run,hfo],⟨rfl,H⟩,Tr.refl H⟩
      ·exact ⟨(w.tape w.drawn (.mapNext pj.size))%pj.size,{ w with drawn:=w.drawn+1 },Nat.mod_lt _ jm,by simp [choose,Sem.run,hfo,Question.cut],⟨rfl,H.drew _⟩,Tr.drew H _⟩
     have kU:(es.filter fun e=> !seen.contains e.1).filter (fun e=>decide (e.1<kl))=[]↔old.isEmpty=true:=by
      constructor
      ·intro h0
       simp only [old,left]
       rw [Array.isEmpty_iff_size_eq_zero]
       apply byContradiction
       intro bp
       obtain ⟨en,Bj⟩:∃en,en∈(Array.filter (fun e=>decide (e.born<kl)) (Array.filter (fun e=> !(seen.toArray.contains e.born)) aJ)):=⟨_,Array.getElem_mem (i:=0) (by omega)⟩
       rw [Array.mem_filter,Array.mem_filter] at Bj
       obtain ⟨⟨e1,e2⟩,e3⟩:=Bj
       obtain ⟨e,he,g1,_,_⟩:=hz en (by simpa using e1)
       have:e∈(es.filter fun e=> !seen.contains e.1).filter (fun e=>decide (e.1<kl)):=by
        rw [mem_filter,mem_filter,g1]
        exact ⟨⟨he,by simpa using e2⟩,e3⟩
       rw [h0] at this
       cases this
      ·intro h0
       rw [Array.isEmpty_iff_size_eq_zero] at h0
       rw [List.filter_eq_nil_iff]
       intro e he aD
       rw [mem_filter] at he
       obtain ⟨en,h1,h2⟩:=rK e he.1
       have:en∈old:=by
        simp only [old,left]
        rw [Array.mem_filter,Array.mem_filter,←h2]
        exact ⟨⟨by simpa using h1,by simpa using he.2⟩,aD⟩
       rw [Array.eq_empty_of_size_eq_zero h0] at this
       simp at this
     have Iu:w1.heap[r.bw]?=some (.mapIter (some rm.bw) kl seen.toArray last):=by rw [Rj.1];exact hb
     obtain ⟨cq,Ix⟩:∃cq,pj[q]?=some cq:=⟨_,Array.getElem?_eq_getElem hq⟩
     have gu:∀{v' w'},(match pj[q]? with
       | some (some e)=>(do setObj r.bw (.mapIter (some rm.bw) kl (seen.toArray.push e.born) c);pure (.tuple #[.bool true,e.key,e.val]):Sem Value)
       | some none=>pure (.tuple #[.bool false])
       | none=>stuck "Next: no such candidate").run P w1=.ok v' w'→(Instr.next (.pointer (some ⟨r.bw,0+0,none⟩)) false ty).run P w=.ok v' w':=by
      intro v' w' hx
      unfold Instr.next
      simp only [add_zero,Sem.run_bind,bU,Result.andThen_ok,Qv,pB,Bool.false_eq_true,if_false]
      show ((choose (.mapNext pj.size)).run P w).andThen _=_
      rw [Qj]
      exact hx
     cases cq with
     | none=>
      -- it is JC
      have ho:old.isEmpty=true:=by
       apply byContradiction
       intro ho
       have:(none:Option MapEntry)∈pj:=Array.mem_of_getElem? Ix
       simp only [pj,if_neg ho] at this
       simp at this
      refine ⟨(.tuple #[.bool false],h),?_,.tuple #[.bool false],w1,gu (by rw [Ix];rfl),ax.rU (.cons (.bool _) .nil),Rj.2,hT1⟩
      rw [←hn]
      have:=kU.2 ho
      refine List.mem_append_left _ ?_
      rw [this];simp
     | some en=>
      have Bj:en∈old++new:=by
       have:(some en:Option MapEntry)∈pj:=Array.mem_of_getElem? Ix
       simp only [pj] at this
       rcases Array.mem_append.1 this with h1 | h1
       ·split at h1 <;> simp at h1
       ·obtain ⟨e2,h2,h3⟩:=Array.mem_map.1 h1
        cases h3
        exact h2
      have IA:en∈aJ.toList∧seen.contains en.born=false:=by
       rcases Array.mem_append.1 Bj with h1 | h1
       ·simp only [old,left] at h1
        rw [Array.mem_filter,Array.mem_filter] at h1
        exact ⟨by simpa using h1.1.1,by simpa using h1.1.2⟩
       ·simp only [new,left] at h1
        rw [Array.mem_filter,Array.mem_filter] at h1
        exact ⟨by simpa using h1.1.1,by simpa using h1.1.2⟩
      obtain ⟨e,he,g1,g2,g3⟩:=hz en IA.1
      have aD:=(bK sH).1
      have jj:cB h j:=.inr (.inr (.inr (.inr (.inr ⟨_,_,_,_,sH⟩))))
      have sb:=mK.obj Iu (.mapIter (some rm.bw) kl (seen.toArray.push en.born) c)
      obtain ⟨q1,q2⟩:=Rj.2.set (o:=.iter i kl (seen++[e.1]) c) hr jj sb ⟨xk,rm,IV,by rw [sb.here,g1];simp⟩
      have lJ:(setObj r.bw (.mapIter (some rm.bw) kl (seen.toArray.push en.born) c)).run P w1=.ok () { w1 with heap:=w1.heap.setIfInBounds r.bw (.mapIter (some rm.bw) kl (seen.toArray.push en.born) c) }:=by
       simp [setObj,Sem.run,Iu]
      refine ⟨(.tuple #[.bool true,e.2.1,e.2.2],h.set j (.iter i kl (seen++[e.1]) c)),?_,.tuple #[.bool true,en.key,en.val],_,gu (by rw [Ix];simp only [Sem.run_bind,lJ,Result.andThen_ok,Sem.run_pure]),?_,q1,hT1.trans q2⟩
      ·rw [←hn]
       refine List.mem_append_right _ (mem_map.2 ⟨e,?_,rfl⟩)
       have hl:e∈es.filter fun e=> !seen.contains e.1:=by
        rw [mem_filter,g1]
        exact ⟨he,by simp at IA⊢;exact IA.2⟩
       by_cases mm:e.1<kl
       ·exact List.mem_append_left _ (mem_filter.2 ⟨hl,by simpa using mm⟩)
       ·exact List.mem_append_right _ (mem_filter.2 ⟨hl,by simpa using le_of_not_lt mm⟩)
      ·rw [g2]
       have QI:ax ρ en.key en.key:=by
        have hk:fc g en.key=true:=by
         obtain ⟨q',gG,e'⟩:=List.mem_iff_getElem.1 IA.1
         have:aJ[q']?=some en:=by rw [←getElem?_toList,getElem?_eq_getElem gG,e']
         exact (E.inv this).choose_spec.2.1
        have ints:∀{kd:IntKind} {v:Value},kh kd v=true→ax ρ v v∧gy v=true:=by
         intro kd v hv
         cases v <;> simp [kh] at hv
         exact ⟨.int _ _,rfl⟩
        cases xc:en.key with
        | int kd n=>exact .int _ _
        | string s=>exact .string _
        | agg cs=>
         rw [xc] at hk
         cases g with
         | ints n kd=>
          simp only [fc,and_eq_true,all_eq_true] at hk
          refine .agg rfl (fun x hx=>(ints (hk.2 x hx).1).2) (fun k x x' hx bR=>?_)
          rw [hx] at bR
          cases bR
          exact (ints (hk.2 x (by rw [←getElem?_toList] at hx;exact mem_of_getElem? hx)).1).1
         | int _=>simp [fc,kh] at hk
         | str=>simp [fc] at hk
        | _=>rw [xc] at hk;cases g <;> simp [fc,kh] at hk
       exact ax.rU (.cons (.bool _) (.cons QI (.cons g3 .nil)))
   ·cases hn
  ·cases hn
 ·cases hn
end
end
section
section
variable {P : Program} {N : Nat}
theorem atC {op:Op} {it:Operand} (h:iD P op=some (.next it)):op=.next it false:=by
 unfold iD at h
 split at h
 case h_13=>simp at h;subst h;rfl
 all_goals exfalso
 all_goals repeat' (split at h)
 all_goals first | (cases h;done) | (simp at h;done) | (simp only [map_eq_some_iff] at h;obtain ⟨_,_,h⟩:=h;cases h;done) | skip
theorem ayU {o:Oper} {io:gT} {f:Nat→Value} {h:ae} {K:Value→ae→Prop} (hc:uP P o.op=some io) (aG:o.op.operands.all jy=true) (hs:Ce P io f h K):
  ∀R B ρ a w,ep P N B ρ f h a w→∀(next:Act→World→Prop) (Q:Exit→Act→World→Prop),
   (∀v h' av v' w',K v h'→ax av v v'→aZ P av h' w'→Tr ρ h w av h' w'→next (a.put o.dst v') w')→o.wpIn (FR R) 0 P a w next Q:=by
 have det:dd P io f h K→∀R B ρ a w,ep P N B ρ f h a w→∀(next:Act→World→Prop) (Q:Exit→Act→World→Prop),
   (∀v h' av v' w',K v h'→ax av v v'→aZ P av h' w'→Tr ρ h w av h' w'→next (a.put o.dst v') w')→o.wpIn (FR R) 0 P a w next Q:=by
  intro hs R B ρ a w Rr next Q hn
  obtain ⟨v,h',st,hk⟩:=zT (N:=N) hc aG hs
  exact st R B ρ a w Rr next Q fun av v' w' h1 h2 h3=>hn v h' av v' w' hk h1 h2 h3
 cases io with
 | e eo=>
  cases eo with
  | next it=>
   obtain ⟨l,hl,hk⟩:=hs
   rcases Ph hc with ⟨po,e,_⟩ | ⟨lo,e,_⟩ | ⟨eo,e,he⟩ | ⟨g,args,at_,_,_,e⟩ | ⟨x,args,at_,_,e⟩
   ·cases e
   ·cases e
   ·cases e
    have c8:=atC he
    intro R B ρ a w Rr next Q hn
    rw [c8] at aG
    simp [Op.operands] at aG
    obtain ⟨p,hp,v',w',h1,h2,h3,h4⟩:=ayG Rr.heap hl (Rr.ev aG) o.type
    exact K7 (abM hc) (v:=v') (w':=w') (by simp [execOp,c8,h1]) (hn p.1 p.2 ρ v' w' (hk p hp) h2 h3 h4)
   ·cases e
   ·cases e
  | _=>exact det hs
 | _=>exact det hs
def nP (P:Program) (N:Nat) (ops:Array Oper) (jQ:List Nat) (f:Nat→Value) (h:ae) (K:(Nat→Value)→ae→Prop):Prop:=
 ∀S B ρ a w,ep P N B ρ f h a w→∀Q:Exit→Act→World→Prop,(∀f' h' av a' w',K f' h'→ep P N B av f' h' a' w'→Tr ρ h w av h' w'→Q .normal a' w')→wpOpsIn (FR S) 0 P ops Q jQ a w
theorem gU.n {ops:Array Oper} {jQ:List Nat} {f f':Nat→Value} {h h':ae} {K:(Nat→Value)→ae→Prop} (r:gU P N ops jQ f h f' h') (hk:K f' h'):nP P N ops jQ f h K:=
 fun S B ρ a w R Q hq=>r S B ρ a w R Q fun av a' w' R' T=>hq f' h' av a' w' hk R' T
theorem nP.append {ops:Array Oper} {i j:List Nat} {f:Nat→Value} {h:ae} {K K':(Nat→Value)→ae→Prop} (a:nP P N ops i f h K) (b:∀cV h₁,K cV h₁→nP P N ops j cV h₁ K'):nP P N ops (i++j) f h K':=by
 intro S B ρ ac w R Q hq
 refine uA (a S B ρ ac w R _ ?_)
 intro cV h₁ nj ya oB hk xU T
 exact b cV h₁ hk S B nj ya oB xU Q fun f' h' av a' w' ca R' T'=>hq f' h' av a' w' ca R' (T.trans T')
theorem nP.weaken {ops:Array Oper} {jQ:List Nat} {f cV:Nat→Value} {h:ae} {K:(Nat→Value)→ae→Prop} (hw:tm cV f) (hr:nP P N ops jQ cV h K):nP P N ops jQ f h K:=
 fun S B ρ a w R=>hr S B ρ a w (R.weaken hw)
theorem acK {ops:Array Oper}:∀{l:List je} {os:List Oper} {i:Nat} {K:(Nat→Value)→ae→Prop} {f:Nat→Value} {h:ae},(∀(k:Nat) (o:Oper),os[k]?=some o→ops[i+k]?=some o)→lE P N ops os=some (qi none l)→A6 P l K f h→
  nP P N ops (range' i os.length) f h K
 | [],os,i,K,f,h,_,hc,hi=>by
  cases os with
  | nil=>exact fun S B ρ a w R Q hq=>hq f h ρ a w hi R (Tr.refl R.heap)
  | cons o os=>obtain ⟨x,xs,_,_,he⟩:=uO hc;simp [qi] at he
 | g::l,os,i,K,f,h,qu,hc,hi=>by
  cases os with
  | nil=>simp [lE,qi] at hc
  | cons o os=>
   obtain ⟨x,xs,h1,h2,he⟩:=uO hc
   simp only [qi,map_cons,List.cons.injEq] at he
   obtain ⟨rfl,rfl⟩:=he
   obtain ⟨q1,q2,q3,q4,q5⟩:=Df h1
   have ho:ops[i]?=some o:=qu 0 o rfl
   have IN:∀(k:Nat) (o':Oper),os[k]?=some o'→ops[i+1+k]?=some o':=by
    intro k o' hk
    have:=qu (k+1) o' (by simpa using hk)
    rw [show i+(k+1)=i+1+k by omega] at this
    exact this
   intro S B ρ a w R Q hq
   rw [length_cons,List.range'_succ]
   simp only [wpOpsIn,ho]
   rw [if_pos (by rw [Fl q4 R trivial];rfl)]
   have bD:Ce P g.op f h fun v h'=>A6 P l K (dK f g.dst v) h':=hi
   refine ayU q3 q1 bD S B ρ a w R _ _ ?_
   intro v h' av v' w' hk hv H T
   have q5':g.dst=o.dst:=q5
   rw [q5'] at hk
   exact acK IN h2 hk S B av _ w' (R.ui q2 T hv H) Q fun Dp aT mG sm jV avW oH T'=>hq Dp aT mG sm jV avW oH (T.trans T')
theorem abS {ls:List Nat} {c:fa} {K:Exit→(Nat→Value)→ae→Prop} {f:Nat→Value} {h:ae} (hi:lM P (wM ls c) K f h):∃f',tm f' f∧lM P c K f' h:=by
 cases ls with
 | nil=>exact ⟨f,fun _=>.inl rfl,hi⟩
 | cons l ls=>exact ⟨_,EE f (l::ls),hi⟩
theorem aCy {ops:Array Oper}:∀{gs:List (Option (Nat×Bool)×List je)} {hs:Hints} {os:List Oper} {i:Nat} {K:Exit→(Nat→Value)→ae→Prop} {f:Nat→Value} {h:ae},
  (∀(k:Nat) (o:Oper),os[k]?=some o→ops[i+k]?=some o)→lE P N ops os=some (nX gs)→(∀g l,(g,l)∈gs→∀o∈l,leaves g o.dst=true)→lM P (qT gs hs).1 K f h→
  nP P N ops (range' i os.length) f h (K .normal):=by
 intro gs
 induction gs with
 | nil=>
  intro hs os i K f h qu hc _ hi
  cases os with
  | nil=>exact fun S B ρ a w R Q hq=>hq f h ρ a w hi R (Tr.refl R.heap)
  | cons o os=>
   obtain ⟨x,xs,_,_,he⟩:=uO hc
   simp [nX] at he
 | cons a gs ih=>
  obtain ⟨g,l⟩:=a
  intro hs os i K f h qu hc hl hi
  simp only [nX] at hc
  obtain ⟨lP,gA,rfl,c0,c1⟩:=Pf hc
  have IP:∀(k:Nat) (o:Oper),lP[k]?=some o→ops[i+k]?=some o:=by
   intro k o hk
   refine qu k o ?_
   rw [getElem?_append_left (bK hk).1]
   exact hk
  have QR:∀(k:Nat) (o:Oper),gA[k]?=some o→ops[i+lP.length+k]?=some o:=by
   intro k o hk
   rw [Nat.add_assoc]
   refine qu _ o ?_
   rw [List.getElem?_append_right (by omega)]
   simpa using hk
  have first:∀{K:(Nat→Value)→ae→Prop},Jy P g l K f h→nP P N ops (range' i lP.length) f h K:=by
   intro K hk
   cases g with
   | none=>exact acK IP c0 hk
   | some sb=>
    obtain ⟨f',h',r1,r2⟩:=I4 IP c0 (ahz (fun o ho=>hl _ l (by simp) o ho) hk)
    exact r1.n r2
  have both:∀{Mn:(Nat→Value)→ae→Prop},nP P N ops (range' i lP.length) f h Mn→(∀cV h₁,Mn cV h₁→nP P N ops (range' (i+lP.length) gA.length) cV h₁ (K .normal))→nP P N ops (range' i (lP++gA).length) f h (K .normal):=by
   intro Mn a b
   rw [List.length_append,←List.range'_append_1]
   exact a.append b
  have rest:∀{hs:Hints} {cV:Nat→Value} {h₁:ae},lM P (qT gs hs).1 K cV h₁→nP P N ops (range' (i+lP.length) gA.length) cV h₁ (K .normal):=
   fun hk=>ih QR c1 (fun g' l' hm=>hl g' l' (by simp [hm])) hk
  cases gs with
  | nil=>
   have DX:lM P (.ops g l) K f h:=by
    cases hs <;> exact hi
   have r1:=first DX
   have h1:gA=[]:=by
    cases gA with
    | nil=>rfl
    | cons o os=>obtain ⟨x,xs,_,_,he⟩:=uO c1;simp [nX] at he
   subst h1
   simpa using r1
  | cons b gs=>
   cases hs with
   | nil=>exact both (first (K:=fun f h=>lM P (qT (b::gs) []).1 K f h) hi) fun cV h₁ r2=>rest r2
   | cons h0 hs=>
    refine both (first (K:=fun f h=>lM P (wM h0 (qT (b::gs) hs).1) K f h) hi) fun cV h₁ r2=>?_
    obtain ⟨PV,hw,r3⟩:=abS r2
    exact (rest r3).weaken hw
def xS (P:Program) (N B:Nat) (ρ:aK) (h:ae) (w:World) (K:ar):Exit→Act→World→Prop:=
 fun e a' w'=>∃f' h' av,K e f' h'∧ep P N B av f' h' a' w'∧Tr ρ h w av h' w'
def wE (P:Program) (N:Nat) (out:Bool) (c:Code) (f:Nat→Value) (h:ae) (K:ar):Prop:=
 ∀S,(out=true→S=none)→∀B ρ a w,ep P N B ρ f h a w→c.wpIn (FR S) 0 P (xS P N B ρ h w K) a w
def AE (P:Program) (N:Nat) (out:Bool) (c:Code) (f:Nat→Value) (h:ae) (K:ar):Prop:=
 ∀S,(out=true→S=none)→∀B ρ a w,ep P N B ρ f h a w→qL S P c (xS P N B ρ h w K) a w
variable {out : Bool}
theorem gK.n {c:Code} {f f':Nat→Value} {h h':ae} {e:Exit} {K:ar} (r:gK P N out c f h e f' h') (hk:K e f' h'):wE P N out c f h K:=by
 intro S hS B ρ a w R
 refine wpIn_mono (r S hS B ρ a w R) ?_
 rintro e' a' w' ⟨rfl,av,R',T⟩
 exact ⟨f',h',av,hk,R',T⟩
theorem xS.trans {B:Nat} {ρ nj:aK} {h h₁:ae} {w oB:World} {K:ar} (T:Tr ρ h w nj h₁ oB):∀e' a' w',xS P N B nj h₁ oB K e' a' w'→xS P N B ρ h w K e' a' w':=by
 rintro e' a' w' ⟨f',h',av,hk,R,T'⟩
 exact ⟨f',h',av,hk,R,T.trans T'⟩
theorem wE.weaken {c:Code} {f cV:Nat→Value} {h:ae} {K:ar} (hw:tm cV f) (hr:wE P N out c cV h K):wE P N out c f h K:=
 fun S hS B ρ a w R=>hr S hS B ρ a w (R.weaken hw)
theorem AE.weaken {c:Code} {f cV:Nat→Value} {h:ae} {K:ar} (hw:tm cV f) (hr:AE P N out c cV h K):AE P N out c f h K:=
 fun S hS B ρ a w R=>hr S hS B ρ a w (R.weaken hw)
theorem axe {out:Bool}:∀{c:Code} {hs dP:Hints} {ic:fa},fy P N c hs=some (ic,dP)→(out=true∨iz c=true)→∀{K:ar} {f:Nat→Value} {h:ae},lM P ic K f h→wE P N out c f h K:=by
 intro c
 induction c with
 | skip=>
  intro hs dP ic hc ho K f h hi
  simp [fy] at hc
  obtain ⟨rfl,_⟩:=hc
  exact fun S hS B ρ a w R=>wpIn_skip ⟨f,h,ρ,hi,R,Tr.refl R.heap⟩
 | region id ops draw=>
  intro hs dP ic hc ho K f h hi
  cases draw with
  | true=>
   simp only [fy] at hc
   split at hc
   ·rename_i l hl
    split at hc
    ·rename_i vi
     simp at hc
     obtain ⟨rfl,_⟩:=hc
     have ik:=acC (ab2 vi) hi
     rw [HG] at ik
     obtain ⟨f',h',r1,r2⟩:=aep (id:=id) hl ik
     exact r1.n r2
    ·cases hc
   ·cases hc
  | false=>
   simp only [fy] at hc
   split at hc
   ·rename_i l hl
    split at hc
    ·rename_i vi
     simp only [Option.some.injEq] at hc
     have he:ic=(qT (tM l) hs).1:=by rw [hc]
     subst he
     have r1:=aCy (i:=0) (os:=ops.toList) (ops:=ops) (fun k o hk=>by simpa using hk) (by rw [H9];exact hl) (aeZ vi) hi
     intro S hS B ρ a w R
     refine wpIn_region ?_
     rw [List.range_eq_range']
     have r1':nP P N ops (range' 0 ops.size) f h (K .normal):=by simpa using r1
     refine r1' S B ρ a w R _ ?_
     intro f' h' av a' w' hk R' T
     exact ⟨f',h',av,hk,R',T⟩
    ·cases hc
   ·simp at hc
    obtain ⟨rfl,_⟩:=hc
    exact (show False from hi).elim
 | seq x y zy zz=>
  intro hs dP ic hc ho K f h hi
  have yV:out=true∨iz x=true:=ho.imp id fun h=>by simp only [iz,and_eq_true] at h;exact h.1
  have yW:out=true∨iz y=true:=ho.imp id fun h=>by simp only [iz,and_eq_true] at h;exact h.2
  have both:∀{a b:fa} {h0 iU jD:Hints} {ls:List Nat},fy P N x hs=some (a,h0)→fy P N y iU=some (b,jD)→lM P (.seq a (wM ls b)) K f h→wE P N out (.seq x y) f h K:=by
   intro a b h0 iU jD ls ha hb hi
   have r1:=zy ha yV hi
   intro S hS B ρ ac w R
   refine wpIn_seq (wpIn_mono (r1 S hS B ρ ac w R) ?_)
   rintro e' a' w' ⟨cV,h₁,nj,hk,xU,T⟩
   cases e' with
   | normal=>
    obtain ⟨PV,hw,r3⟩:=abS hk
    exact wpIn_mono (((zz hb yW r3).weaken hw) S hS B nj a' w' xU) (xS.trans T)
   | _=>exact ⟨cV,h₁,nj,hk,xU,T⟩
  simp only [fy] at hc
  split at hc
  ·rename_i a h0 iU ha
   split at hc
   ·rename_i b jD hb
    simp at hc
    obtain ⟨rfl,_⟩:=hc
    exact both ha hb hi
   ·cases hc
  ·rename_i a ha
   split at hc
   ·rename_i b jD hb
    simp at hc
    obtain ⟨rfl,_⟩:=hc
    exact both (ls:=[]) ha hb hi
   ·cases hc
  ·cases hc
 | cond c x y zy zz=>
  intro hs dP ic hc ho K f h hi
  have yV:out=true∨iz x=true:=ho.imp id fun h=>by simp only [iz,and_eq_true] at h;exact h.1
  have yW:out=true∨iz y=true:=ho.imp id fun h=>by simp only [iz,and_eq_true] at h;exact h.2
  simp only [fy] at hc
  split at hc
  ·rename_i aG
   split at hc
   ·rename_i a iU ha
    split at hc
    ·rename_i b jD hb
     simp at hc
     obtain ⟨rfl,_⟩:=hc
     have hi:pq (ev f c) (lM P a K f h) (lM P b K f h):=hi
     simp only [pq] at hi
     split at hi
     ·rename_i t ht
      have go:wE P N out (if t then x else y) f h K→wE P N out (.cond c x y) f h K:=by
       intro r S hS B ρ ac w R
       have:=R.ev aG
       rw [ht] at this
       exact wpIn_cond this.ye (r S hS B ρ ac w R)
      cases t
      ·simp at hi
       exact go (by simpa using zz hb yW hi)
      ·simp at hi
       exact go (by simpa using zy ha yV hi)
     ·exact hi.elim
    ·cases hc
   ·cases hc
  ·cases hc
 | block id c ih=>
  intro hs dP ic hc ho K f h hi
  simp only [fy] at hc
  split at hc
  ·rename_i a iU ha
   simp at hc
   obtain ⟨rfl,_⟩:=hc
   have r1:=ih ha (ho.imp (fun h=>h) fun h=>h) (K:=bN id K) hi
   intro S hS B ρ ac w R
   refine wpIn_block (wpIn_mono (r1 S hS B ρ ac w R) ?_)
   rintro e' a' w' ⟨f',h',av,hk,R',T⟩
   cases e' with
   | exit i=>
    simp only [Exit.inBlock,bN] at hk⊢
    split <;> rename_i h
    ·rw [if_pos h] at hk;exact ⟨f',h',av,hk,R',T⟩
    ·rw [if_neg h] at hk;exact ⟨f',h',av,hk,R',T⟩
   | _=>exact ⟨f',h',av,hk,R',T⟩
  ·cases hc
 | loop c ih=>
  intro hs dP ic hc ho K f h hi
  simp only [fy] at hc
  split at hc
  ·rename_i ks ls iU
   split at hc
   ·rename_i a jD ha
    simp at hc
    obtain ⟨rfl,_⟩:=hc
    obtain ⟨J,μ,h0,Q9⟩:=hi
    have key:∀(n:Nat) (xs:List Value) (hh:ae),μ xs hh=n→J xs hh→AE P N out c (kj (ks++ls) (ks.map f++xs)) hh K:=by
     intro n
     induction n using Nat.strongRecOn with
     | _ n sR=>
      intro xs hh hn hJ
      have r1:=ih ha (ho.imp (fun h=>h) fun h=>h) (Q9 xs hh hJ)
      intro S hS B ρ ac w R
      refine qL.round (wpIn_mono (r1 S hS B ρ ac w R) ?_)
      rintro e' a' w' ⟨cV,h₁,nj,hk,xU,T⟩
      cases e' with
      | normal=>
       obtain ⟨hk,Qc,aD⟩:=hk
       have s1:=sR (μ (ls.map cV) h₁) (by omega) (ls.map cV) h₁ rfl Qc
       have s2:AE P N out c cV h₁ K:=s1.weaken (by rw [←hk];exact Jw cV ks ls _ rfl)
       exact (s2 S hS B nj a' w' xU).mono (xS.trans T)
      | _=>exact ⟨cV,h₁,nj,hk,xU,T⟩
    have s1:AE P N out c f h K:=(key _ (ls.map f) h rfl h0).weaken (Jw f ks ls _ rfl)
    exact fun S hS B ρ ac w R=>(s1 S hS B ρ ac w R).wp
   ·cases hc
  ·cases hc
 | exit id=>
  intro hs dP ic hc ho K f h hi
  simp [fy] at hc
  obtain ⟨rfl,_⟩:=hc
  exact fun S hS B ρ a w R=>wpIn_exit ⟨f,h,ρ,hi,R,Tr.refl R.heap⟩
 | ret=>
  intro hs dP ic hc ho K f h hi
  simp [fy] at hc
  obtain ⟨rfl,_⟩:=hc
  exact fun S hS B ρ a w R=>wpIn_ret ⟨f,h,ρ,hi,R,Tr.refl R.heap⟩
 | rangeFunc g ps j9 body=>
  intro hs dP ic hc ho K f h hi
  have ho:out=true:=ho.resolve_right (by simp [iz])
  subst ho
  simp only [fy] at hc
  split at hc
  ·rename_i ls iU
   split at hc
   ·rename_i hk
    simp at hc
    obtain ⟨rfl,_⟩:=hc
    simp only [and_eq_true] at hk
    obtain ⟨h',r1,r2⟩:=ali hk.1 hi
    exact r1.n r2
   ·cases hc
  ·cases hc
 | _=>intro hs dP ic hc;simp [fy] at hc
end
def Rz (P:Program) (F:FuncId) (args:List Value) (h:ae) (K:Value→ae→Prop):Prop:=
 ∀(ρ:aK) (args':Array Value) (w:World),bF ρ args args'.toList→aZ P ρ h w→
  Calls P F args' w fun e w'=>∃v h' v' av,K v h'∧e=.returned v'∧ax av v v'∧aZ P av h' w'∧Tr ρ h w av h' w'
theorem awS {P:Program} {F:FuncId} {N:Nat} {ic:fa} {rs:List ky} {hs:Hints} {h:ae} (hc:bz P F hs=some (N,ic,rs)) {args:List Value} (ha:args.length≤N) {K:Value→ae→Prop}
  (hi:lM P ic (Oh rs K) (bt args) h):Rz P F args h K:=by
 unfold bz at hc
 split at hc
 ·rename_i fn hf
  split at hc
  ·rename_i c hb
   split at hc
   ·rename_i ic' _ UB h1 h2
    simp at hc
    obtain ⟨hN,rfl,rfl⟩:=hc
    have r1:=axe (out:=true) h1 (.inl rfl) hi
    intro ρ args' w hv H
    refine callsIn_wide.1 (callsIn_of_wp_marks (F:=Fence.wide) (n:=0) hf hb trivial ?_ rfl)
    have jw:args'.size=args.length:=by have:=hv.length;simpa using this.symm
    have R:ep P fn.ntmps w.heap.size ρ (bt args) h { tmps:=args'++replicate (fn.ntmps-args'.size) Go.undef,defers:=[] } w:=⟨by simp;omega,le_refl _,acx hv fn.ntmps,H⟩
    refine wpIn_mono (r1 none (fun _=>rfl) _ ρ _ w R) ?_
    rintro e' a' w' ⟨f',h',av,hk,R',T⟩
    have sN:(e'=.normal∨e'=.ret)∧Ks UB K f' h':=by
     cases e' <;> first | exact ⟨.inl rfl,hk⟩ | exact ⟨.inr rfl,hk⟩ | exact hk.elim
    obtain ⟨he,sN⟩:=sN
    obtain ⟨vs,tT,sN⟩:=Kt sN
    have key:LeavesInM Fence.wide 0 P fn a'.tmps (fun e w'=>∃v h' v' av,K v h'∧e=.returned v'∧ax av v v'∧aZ P av h' w'∧Tr ρ h w av h' w') a'.defers .returning w':=by
     refine R5 R'.defers R'.heap T ?_
     intro jV CC tB
     have oH:ep P fn.ntmps 0 av f' h' { a' with defers:=[] } jV:=⟨R'.size,Nat.zero_le _,R'.tmp,CC⟩
     obtain ⟨v',q1,q2⟩:=alE oH h2 tT
     exact ⟨v',q1,pack vs,h',v',av,sN,rfl,q2,CC,tB⟩
    rcases he with rfl | rfl
    ·exact key
    ·exact key
   ·cases hc
  ·cases hc
 ·cases hc
end
end Go.Sim
