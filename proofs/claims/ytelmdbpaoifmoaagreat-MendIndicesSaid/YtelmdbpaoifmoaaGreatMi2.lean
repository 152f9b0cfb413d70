/-
  Part 2 of the texts behind a statement of this seat: Sim15, Sim17, Sim18, Sim18b, Sim18c, Sim18d, Sim18e, Sim18f, Sim19, Sim19b, Sim16, Sim20, Sim21, Sim23, Sim24, Sim25, Sim26.
-/
import Derived.ProofKit
import Derived.OpenShut
import Derived.Test.YtelmdbpaoifmoaaGreatMi1
namespace Go.Sim

section
variable {P : Program} {N : Nat}

def ORun (P:Program) (N:Nat) (ops:Array Oper) (idx:List Nat) (f:Nat→Value) (h:Heap) (f':Nat→Value) (h':Heap):Prop:=
 ∀S B ρ a w,Rel P N B ρ f h a w→∀Q:Exit→Act→World→Prop,(∀ρ' a' w',Rel P N B ρ' f' h' a' w'→Tr ρ h w ρ' h' w'→Q .normal a' w')→wpOpsIn (FR S) 0 P ops Q idx a w

theorem ORun.nil {ops:Array Oper} {f:Nat→Value} {h:Heap}:ORun P N ops [] f h f h:=fun _ _ ρ a w R _ hq=>hq ρ a w R (Tr.refl R.heap)

theorem Rel.putO {B:Nat} {ρ ρ':RMap} {f:Nat→Value} {h h':Heap} {a:Act} {w w':World} (R:Rel P N B ρ f h a w) {d:Option Nat} (hd:d.all (·<N)=true) {v v':Value} (T:Tr ρ h w ρ' h' w') (hv:VRel ρ' v v') (H:HRel P ρ' h' w'):
  Rel P N B ρ' (updO f d v) h' (a.put d v') w':=by
 cases d with
 | none=>exact R.mono T H
 | some d=>exact R.put (by simpa using hd) T hv H

theorem ORun.step {ops:Array Oper} {i:Nat} {idx:List Nat} {o:Oper} {f f':Nat→Value} {h h₁ h':Heap} {v:Value} (ho:ops[i]?=some o) (hd:o.dst.all (·<N)=true)
  (hw:∀B ρ a w,Rel P N B ρ f h a w→Region.wanted o (yielded ops a.tmps)=true) (hs:OpStep P N o f h v h₁) (hr:ORun P N ops idx (updO f o.dst v) h₁ f' h'):ORun P N ops (i::idx) f h f' h':=by
 intro S B ρ a w R Q hq
 simp only [wpOpsIn,ho]
 rw [if_pos (hw B ρ a w R)]
 refine hs S B ρ a w R _ _ ?_
 intro ρ' v' w' hv H T
 exact hr S B ρ' _ w' (R.putO hd T hv H) Q fun ρ'' a'' w'' R'' T'=>hq ρ'' a'' w'' R'' (T.trans T')

theorem ORun.pass {ops:Array Oper} {i:Nat} {idx:List Nat} {o:Oper} {f f':Nat→Value} {h h':Heap} (ho:ops[i]?=some o) (hd:o.dst.all (·<N)=true)
  (hw:∀B ρ a w,Rel P N B ρ f h a w→Region.wanted o (yielded ops a.tmps)=false) (hr:ORun P N ops idx (updO f o.dst undef) h f' h'):ORun P N ops (i::idx) f h f' h':=by
 intro S B ρ a w R Q hq
 simp only [wpOpsIn,ho]
 rw [if_neg (by rw [hw B ρ a w R];simp)]
 exact ⟨fun _ _=>trivial,hr S B ρ _ w (R.putO hd (Tr.refl R.heap) (VRel.undef _) R.heap) Q hq⟩

def gOk (g:Option (Nat×Bool)) (f:Nat→Value):Prop:=
 match g with
 | none=>True
 | some (s,_)=>isBot (f s)=false

theorem isB_rel {ρ:RMap} {v v':Value} (h:VRel ρ v v') (hb:isBot v=false) (b:Bool):isB v' b=isB v b:=by
 cases h <;> first | rfl | simp [isBot] at hb

theorem guardK_cases {v:Value} {b:Bool} {A B:Prop} (h:guardK v b A B):isBot v=false∧((isB v b=true∧A)∨(isB v b=false∧B)):=by
 unfold guardK at h
 split at h
 ·rename_i c
  refine ⟨rfl,?_⟩
  split at h
  ·rename_i hc;exact .inl ⟨hc,h⟩
  ·rename_i hc;exact .inr ⟨by simpa [isB] using hc,h⟩
 ·exact h.elim
 ·rename_i x h1 h2
  have e1:isBot v=false:=by
   cases v <;> first | rfl | exact absurd rfl (h2 _ _ _)
  have e2:isB v b=false:=by
   cases v <;> first | rfl | exact absurd rfl (h1 _)
  exact ⟨e1,.inr ⟨e2,h⟩⟩

theorem wanted_eq {ops:Array Oper} {o:Oper} {g:Option (Nat×Bool)} (hg:compGuard N ops o.guard=some g) {B:Nat} {ρ:RMap} {f:Nat→Value} {h:Heap} {a:Act} {w:World} (R:Rel P N B ρ f h a w) (hb:gOk g f):
  Region.wanted o (yielded ops a.tmps)=wantB g f:=by
 unfold compGuard at hg
 unfold Region.wanted
 cases hgu:o.guard with
 | none=>rw [hgu] at hg;simp at hg;subst hg;rfl
 | some jb=>
  obtain ⟨j,b⟩:=jb
  rw [hgu] at hg
  simp only at hg⊢
  split at hg
  ·rename_i s hs
   split at hg
   ·rename_i hlt
    simp at hg;subst hg
    simp only [wantB]
    have hr:=R.tmp s
    have hsz:s<a.tmps.size:=by rw [R.size];exact hlt
    have hget:a.tmps[s]?=some (a.tmps.getD s Go.undef):=by simp [Array.getD,hsz]
    rw [←isB_rel hr hb b]
    unfold yielded
    rw [hs]
    simp only [Option.bind_some,hget]
    generalize a.tmps.getD s Go.undef=u
    cases u <;> simp [isB]
   ·cases hg
  ·cases hg

def weaker (f' f:Nat→Value):Prop:=∀t,f' t=f t∨f' t=bot

theorem Rel.weaken {B:Nat} {ρ:RMap} {f f':Nat→Value} {h:Heap} {a:Act} {w:World} (R:Rel P N B ρ f h a w) (hw:weaker f' f):Rel P N B ρ f' h a w:=
 ⟨R.size,R.defers,fun t=>(hw t).elim (fun e=>by rw [e];exact R.tmp t) (fun e=>by rw [e];exact .any _),R.heap⟩

theorem ofl_weaker (f:Nat→Value):∀ls:List Nat,weaker (ofl ls (ls.map f)) f
 | [],t=>.inr rfl
 | l::ls,t=>by
  simp only [List.map_cons,ofl_cons]
  by_cases h:t=l
  ·subst h;simp
  ·rw [if_neg h];exact ofl_weaker f ls t

theorem ORun.weaken {ops:Array Oper} {idx:List Nat} {f f₁ f':Nat→Value} {h h':Heap} (hw:weaker f₁ f) (hr:ORun P N ops idx f₁ h f' h'):ORun P N ops idx f h f' h':=
 fun S B ρ a w R=>hr S B ρ a w (R.weaken hw)

theorem Run.weaken {b:Bool} {c:Code} {f f₁ f':Nat→Value} {h h':Heap} {e:Exit} (hw:weaker f₁ f) (hr:Run P N b c f₁ h e f' h'):Run P N b c f h e f' h':=
 fun S hS B ρ a w R=>hr S hS B ρ a w (R.weaken hw)

theorem wpOpsIn_append {S:Option Nat} {ops:Array Oper} {Q:Exit→Act→World→Prop}:∀{i j:List Nat} {a:Act} {w:World},wpOpsIn (FR S) 0 P ops (fun e a w=>match e with | .normal=>wpOpsIn (FR S) 0 P ops Q j a w | e=>Q e a w) i a w→wpOpsIn (FR S) 0 P ops Q (i++j) a w
 | [],j,a,w,h=>h
 | i::is,j,a,w,h=>by
  simp only [List.cons_append,wpOpsIn] at h⊢
  cases ho:ops[i]? with
  | none=>rw [ho] at h;exact wpOpsIn_append h
  | some o=>
   rw [ho] at h
   simp only at h⊢
   split at h
   ·rename_i hw
    rw [if_pos hw]
    obtain ⟨h0,h⟩:=h
    refine ⟨h0,?_⟩
    generalize (o.semAt (FR S).round a.eval).run P w=r at h⊢
    cases r with
    | ok x w'=>
     cases x <;> simp only [Oper.uponIn] at h⊢
     ·exact wpOpsIn_append h
     ·exact wpOpsIn_append h
     ·refine ⟨h.1,h.2.mono ?_⟩
      rintro e w'' hR
      cases e with
      | returned v=>exact wpOpsIn_append hR
      | panicked chain=>exact hR
      | outgrown=>exact hR
     ·refine ⟨h.1,h.2.mono ?_⟩
      rintro e w'' hR
      cases e with
      | returned v=>exact wpOpsIn_append hR
      | panicked chain=>exact hR
      | outgrown=>exact hR
     ·exact wpOpsIn_append h
     ·refine ⟨h.1,h.2.mono ?_⟩
      rintro v w'' hR
      exact wpOpsIn_append hR
    | halt x w'=>
     cases x <;> simp only [Oper.uponIn] at h⊢
     exact h
   ·rename_i hw
    rw [if_neg hw]
    exact ⟨h.1,wpOpsIn_append h.2⟩

theorem ORun.append {ops:Array Oper} {i j:List Nat} {f f₁ f':Nat→Value} {h h₁ h':Heap} (a:ORun P N ops i f h f₁ h₁) (b:ORun P N ops j f₁ h₁ f' h'):ORun P N ops (i++j) f h f' h':=by
 intro S B ρ ac w R Q hq
 refine wpOpsIn_append (a S B ρ ac w R _ ?_)
 intro ρ' a' w' R' T
 exact b S B ρ' a' w' R' Q fun ρ'' a'' w'' R'' T'=>hq ρ'' a'' w'' R'' (T.trans T')

theorem compOper_inv {ops:Array Oper} {o:Oper} {x:IOper} (h:compOper P N ops o=some x):
  o.op.operands.all opdOk=true∧o.dst.all (·<N)=true∧compOp P o.op=some x.op∧compGuard N ops o.guard=some x.guard∧x.dst=o.dst:=by
 unfold compOper at h
 split at h
 ·rename_i hc
  simp only [Bool.and_eq_true] at hc
  split at h
  ·rename_i op g h1 h2
   simp at h;subst h
   exact ⟨hc.1,hc.2,h1,h2,rfl⟩
  ·cases h
 ·cases h

theorem compList_inv {ops:Array Oper} {o:Oper} {os:List Oper} {l:List IOper} (h:compList P N ops (o::os)=some l):∃x xs,compOper P N ops o=some x∧compList P N ops os=some xs∧l=x::xs:=by
 simp only [compList] at h
 split at h
 ·rename_i x xs h1 h2
  simp at h
  exact ⟨x,xs,h1,h2,h.symm⟩
 ·cases h

theorem iops_sound {ops:Array Oper}:∀{os:List Oper} {l:List IOper} {i:Nat} {K:(Nat→Value)→Heap→Prop} {f:Nat→Value} {h:Heap},(∀(k:Nat) (o:Oper),os[k]?=some o→ops[i+k]?=some o)→compList P N ops os=some l→iops P l K f h→
  ∃f' h',ORun P N ops (List.range' i os.length) f h f' h'∧K f' h'
 | [],l,i,K,f,h,_,hc,hi=>by
  simp [compList] at hc
  subst hc
  exact ⟨f,h,ORun.nil,hi⟩
 | o::os,l,i,K,f,h,hops,hc,hi=>by
  obtain ⟨x,xs,h1,h2,rfl⟩:=compList_inv hc
  obtain ⟨q1,q2,q3,q4,q5⟩:=compOper_inv h1
  have ho:ops[i]?=some o:=hops 0 o rfl
  have hops':∀(k:Nat) (o':Oper),os[k]?=some o'→ops[i+1+k]?=some o':=by
   intro k o' hk
   have:=hops (k+1) o' (by simpa using hk)
   rw [show i+(k+1)=i+1+k by omega] at this
   exact this
  have go:∀(_:gOk x.guard f) (_:wantB x.guard f=true),stepK P x.op f h (fun v h'=>iops P xs K (updO f x.dst v) h')→
    ∃f' h',ORun P N ops (List.range' i (o::os).length) f h f' h'∧K f' h':=by
   intro hb hw hs
   obtain ⟨v,h',hst,hk⟩:=opStep_of (N:=N) q3 q1 hs
   obtain ⟨f'',h'',r1,r2⟩:=iops_sound hops' h2 hk
   refine ⟨f'',h'',?_,r2⟩
   rw [List.length_cons,List.range'_succ]
   rw [q5] at r1
   exact ORun.step ho q2 (fun B ρ a w R=>by rw [wanted_eq q4 R hb,hw]) hst r1
  have skip:∀(_:gOk x.guard f) (_:wantB x.guard f=false),iops P xs K (updO f x.dst undef) h→
    ∃f' h',ORun P N ops (List.range' i (o::os).length) f h f' h'∧K f' h':=by
   intro hb hw hs
   obtain ⟨f'',h'',r1,r2⟩:=iops_sound hops' h2 hs
   refine ⟨f'',h'',?_,r2⟩
   rw [List.length_cons,List.range'_succ]
   rw [q5] at r1
   exact ORun.pass ho q2 (fun B ρ a w R=>by rw [wanted_eq q4 R hb,hw]) r1
  simp only [iops] at hi
  split at hi
  ·rename_i hgu
   exact go (by rw [hgu];trivial) (by rw [hgu];rfl) hi
  ·rename_i s b hgu
   obtain ⟨e1,e2⟩:=guardK_cases hi
   rcases e2 with ⟨e2,e3⟩ | ⟨e2,e3⟩
   ·exact go (by rw [hgu];exact e1) (by rw [hgu];exact e2) e3
   ·exact skip (by rw [hgu];exact e1) (by rw [hgu];exact e2) e3

def flat1 (g:Option (Nat×Bool)) (l:List GOper):List IOper:=l.map fun o=>⟨o.dst,o.op,g⟩

def flatG:List (Option (Nat×Bool)×List GOper)→List IOper
 | []=>[]
 | (g,l)::gs=>flat1 g l++flatG gs

theorem flatG_groupsOf:∀os:List IOper,flatG (groupsOf os)=os
 | []=>rfl
 | o::os=>by
  have ih:=flatG_groupsOf os
  simp only [groupsOf]
  cases hg:groupsOf os with
  | nil=>
   rw [hg] at ih
   simp only [flatG] at ih
   subst ih
   simp [flatG,flat1]
  | cons a gs=>
   obtain ⟨g,l⟩:=a
   rw [hg] at ih
   simp only
   split
   ·rename_i he
    simp only [flatG,flat1,List.map_cons,List.cons_append] at ih⊢
    rw [ih,←he]
   ·simp only [flatG,flat1,List.map_cons,List.map_nil,List.cons_append,List.nil_append] at ih⊢
    rw [ih]

theorem guardK_mk {v:Value} {b:Bool} {A B:Prop} (hb:isBot v=false) (hA:isB v b=true→A) (hB:isB v b=false→B):guardK v b A B:=by
 unfold guardK
 split
 ·split
  ·rename_i c hc;exact hA hc
  ·rename_i c hc;exact hB (by simpa [isB] using hc)
 ·simp [isBot] at hb
 ·rename_i x h1 h2
  refine hB ?_
  cases v <;> first | rfl | exact absurd rfl (h1 _)

theorem opsK_iops {g:Option (Nat×Bool)} {K:(Nat→Value)→Heap→Prop}:∀{l:List GOper} {f:Nat→Value} {h:Heap},(∀o∈l,leaves g o.dst=true)→opsK P g l K f h→iops P (flat1 g l) K f h:=by
 intro l f h hl hk
 cases g with
 | none=>
  simp only [opsK] at hk
  clear hl
  induction l generalizing f h with
  | nil=>exact hk
  | cons o l ih=>
   simp only [gops] at hk
   simp only [flat1,List.map_cons,iops]
   have:stepK P o.op f h (fun v h'=>iops P (flat1 none l) K (updO f o.dst v) h'):=by
    have mono:∀{io:IOp} {K K':Value→Heap→Prop},(∀v h,K v h→K' v h)→stepK P io f h K→stepK P io f h K':=by
     intro io K K' hm hs
     cases io with
     | p po=>simp only [stepK,oletP] at hs⊢;split at hs <;> first | exact hm _ _ hs | exact hs.elim
     | l lo=>simp only [stepK,oletP] at hs⊢;split at hs <;> first | exact hm _ _ hs | exact hs.elim
     | e eo=>simp only [stepK,oletH] at hs⊢;split at hs <;> first | exact hm _ _ hs | exact hs.elim
     | call g args=>exact hs.mono hm
     | callv x args=>simp only [stepK,callV] at hs⊢;split at hs <;> first | exact ⟨hs.1,hs.2.mono hm⟩ | exact hs.elim
    exact mono (fun v h' hk'=>ih hk') hk
   exact this
 | some sb=>
  obtain ⟨s,b⟩:=sb
  simp only [opsK] at hk
  obtain ⟨e1,e2⟩:=guardK_cases hk
  clear hk
  induction l generalizing f h with
  | nil=>
   rcases e2 with ⟨_,e⟩ | ⟨_,e⟩ <;> exact e
  | cons o l ih=>
   have hd:o.dst≠some s:=by simpa [leaves] using hl o (by simp)
   have hs:∀v,updO f o.dst v s=f s:=by
    intro v
    cases ho:o.dst with
    | none=>rfl
    | some d=>
     have:s≠d:=by rintro rfl;exact hd ho
     simp [updO,upd_eq,this]
   simp only [flat1,List.map_cons,iops]
   refine guardK_mk e1 (fun hb=>?_) (fun hb=>?_)
   ·rcases e2 with ⟨_,e⟩ | ⟨e,_⟩
    ·simp only [gops] at e
     have mono:∀{io:IOp} {K K':Value→Heap→Prop},(∀v h,K v h→K' v h)→stepK P io f h K→stepK P io f h K':=by
      intro io K K' hm hs
      cases io with
      | p po=>simp only [stepK,oletP] at hs⊢;split at hs <;> first | exact hm _ _ hs | exact hs.elim
      | l lo=>simp only [stepK,oletP] at hs⊢;split at hs <;> first | exact hm _ _ hs | exact hs.elim
      | e eo=>simp only [stepK,oletH] at hs⊢;split at hs <;> first | exact hm _ _ hs | exact hs.elim
      | call g args=>exact hs.mono hm
      | callv x args=>simp only [stepK,callV] at hs⊢;split at hs <;> first | exact ⟨hs.1,hs.2.mono hm⟩ | exact hs.elim
     refine mono (fun v h' hk'=>?_) e
     exact ih (fun o' ho'=>hl o' (by simp [ho'])) (by rw [hs];exact e1) (.inl ⟨by rw [hs];exact hb,hk'⟩)
    ·rw [hb] at e;cases e
   ·rcases e2 with ⟨e,_⟩ | ⟨_,e⟩
    ·rw [hb] at e;cases e
    ·exact ih (fun o' ho'=>hl o' (by simp [ho'])) (by rw [hs];exact e1) (.inr ⟨by rw [hs];exact hb,e⟩)

theorem compList_append {ops:Array Oper}:∀{os:List Oper} {m0 m1:List IOper},compList P N ops os=some (m0++m1)→∃os0 os1,os=os0++os1∧compList P N ops os0=some m0∧compList P N ops os1=some m1
 | os,[],m1,h=>⟨[],os,rfl,rfl,h⟩
 | [],x::m0,m1,h=>by simp [compList] at h
 | o::os,x::m0,m1,h=>by
  obtain ⟨y,ys,h1,h2,he⟩:=compList_inv h
  simp only [List.cons_append,List.cons.injEq] at he
  obtain ⟨rfl,rfl⟩:=he
  obtain ⟨os0,os1,rfl,e1,e2⟩:=compList_append h2
  refine ⟨o::os0,os1,rfl,?_,e2⟩
  simp [compList,h1,e1]

theorem cutO_iwp {ls:List Nat} {c:ICode} {K:Exit→(Nat→Value)→Heap→Prop} {f:Nat→Value} {h:Heap} (hi:iwp P (cutO ls c) K f h):∃f',weaker f' f∧iwp P c K f' h:=by
 cases ls with
 | nil=>exact ⟨f,fun _=>.inl rfl,hi⟩
 | cons l ls=>exact ⟨_,ofl_weaker f (l::ls),hi⟩

theorem rcode_sound {ops:Array Oper}:∀{gs:List (Option (Nat×Bool)×List GOper)} {hs:Hints} {os:List Oper} {i:Nat} {K:Exit→(Nat→Value)→Heap→Prop} {f:Nat→Value} {h:Heap},
  (∀(k:Nat) (o:Oper),os[k]?=some o→ops[i+k]?=some o)→compList P N ops os=some (flatG gs)→(∀g l,(g,l)∈gs→∀o∈l,leaves g o.dst=true)→iwp P (rcode gs hs).1 K f h→
  ∃f' h',ORun P N ops (List.range' i os.length) f h f' h'∧K .normal f' h':=by
 intro gs
 induction gs with
 | nil=>
  intro hs os i K f h hops hc _ hi
  cases os with
  | nil=>exact ⟨f,h,ORun.nil,hi⟩
  | cons o os=>
   obtain ⟨x,xs,_,_,he⟩:=compList_inv hc
   simp [flatG] at he
 | cons a gs ih=>
  obtain ⟨g,l⟩:=a
  intro hs os i K f h hops hc hl hi
  simp only [flatG] at hc
  obtain ⟨os0,os1,rfl,c0,c1⟩:=compList_append hc
  have hops0:∀(k:Nat) (o:Oper),os0[k]?=some o→ops[i+k]?=some o:=by
   intro k o hk
   refine hops k o ?_
   rw [List.getElem?_append_left (List.getElem?_eq_some_iff.1 hk).1]
   exact hk
  have hops1:∀(k:Nat) (o:Oper),os1[k]?=some o→ops[i+os0.length+k]?=some o:=by
   intro k o hk
   rw [Nat.add_assoc]
   refine hops _ o ?_
   rw [List.getElem?_append_right (by omega)]
   simpa using hk
  have first:∀{K:(Nat→Value)→Heap→Prop},opsK P g l K f h→∃f' h',ORun P N ops (List.range' i os0.length) f h f' h'∧K f' h':=by
   intro K hk
   exact iops_sound hops0 c0 (opsK_iops (fun o ho=>hl g l (by simp) o ho) hk)
  have both:∀{f₁:Nat→Value} {h₁:Heap} {f':Nat→Value} {h':Heap},ORun P N ops (List.range' i os0.length) f h f₁ h₁→ORun P N ops (List.range' (i+os0.length) os1.length) f₁ h₁ f' h'→ORun P N ops (List.range' i (os0++os1).length) f h f' h':=by
   intro f₁ h₁ f' h' a b
   rw [List.length_append,←List.range'_append_1]
   exact a.append b
  have rest:∀{hs:Hints} {f₁:Nat→Value} {h₁:Heap},iwp P (rcode gs hs).1 K f₁ h₁→∃f' h',ORun P N ops (List.range' (i+os0.length) os1.length) f₁ h₁ f' h'∧K .normal f' h':=
   fun hk=>ih hops1 c1 (fun g' l' hm=>hl g' l' (by simp [hm])) hk
  cases gs with
  | nil=>
   have hone:iwp P (.ops g l) K f h:=by
    cases hs <;> exact hi
   obtain ⟨f',h',r1,r2⟩:=first hone
   have h1:os1=[]:=by
    cases os1 with
    | nil=>rfl
    | cons o os=>obtain ⟨x,xs,_,_,he⟩:=compList_inv c1;simp [flatG] at he
   subst h1
   exact ⟨f',h',by simpa using r1,r2⟩
  | cons b gs=>
   cases hs with
   | nil=>
    obtain ⟨f₁,h₁,r1,r2⟩:=first (K:=fun f h=>iwp P (rcode (b::gs) []).1 K f h) hi
    obtain ⟨f',h',s1,s2⟩:=rest r2
    exact ⟨f',h',both r1 s1,s2⟩
   | cons h0 hs=>
    obtain ⟨f₁,h₁,r1,r2⟩:=first (K:=fun f h=>iwp P (cutO h0 (rcode (b::gs) hs).1) K f h) hi
    obtain ⟨f₂,hw,r3⟩:=cutO_iwp r2
    obtain ⟨f',h',s1,s2⟩:=rest r3
    exact ⟨f',h',both r1 (s1.weaken hw),s2⟩

def loopWp (S:Option Nat) (P:Program) (c:Code) (Q:Exit→Act→World→Prop) (a:Act) (w:World):Prop:=
 ∀(b:Frame) (k:List Item) (cs:List Frame),b.roundOf=S→
  ∃e a' w',Q e a' w'∧ArrivesIn (Machine.fenced P (FR S)) P (lone (b.atR a (.code c:: .inLoop c::k)) cs w) b k cs e a' w'

theorem FR.room (S:Option Nat) (n:Nat):(FR S).room n:=fun _ h=>by cases h

theorem loopWp.wp {S:Option Nat} {c:Code} {Q:Exit→Act→World→Prop} {a:Act} {w:World} (h:loopWp S P c Q a w):(Code.loop c).wpIn (FR S) 0 P Q a w:=by
 intro b k cs hro hb hr
 obtain ⟨e,a',w',q,r⟩:=h b k cs hro
 exact ⟨e,a',w',q,.of_steps (.one (fenced_calm hb hr rfl) stepR_loop) r⟩

theorem loopWp.round {S:Option Nat} {c:Code} {Q:Exit→Act→World→Prop} {a:Act} {w:World} (h:c.wpIn (FR S) 0 P (Exit.then (loopWp S P c Q) Q) a w):loopWp S P c Q a w:=by
 intro b k cs hro
 have hb:(FR S).fn b.fn:=trivial
 have hr:(FR S).room (cs.length+1+0):=FR.room S _
 obtain ⟨e,a₁,w₁,hq,harr⟩:=h b (.inLoop c::k) cs hro hb hr
 cases e with
 | normal=>
  obtain ⟨e₂,a₂,w₂,hq₂,harr₂⟩:=hq b k cs hro
  exact ⟨e₂,a₂,w₂,hq₂,.of_steps (StepsIn.trans harr (.one (fenced_calm hb hr rfl) stepR_inLoop)) harr₂⟩
 | exit id=>exact ⟨_,a₁,w₁,hq,.pass (x:=.inLoop c) rfl (fun _ _=>.inl (by simp)) harr⟩
 | goto l=>exact ⟨_,a₁,w₁,hq,.pass (x:=.inLoop c) rfl (fun _ _=>.inl (by simp)) harr⟩
 | ret=>exact ⟨_,a₁,w₁,hq,.pass (x:=.inLoop c) rfl (fun _ _=>.inl (by simp)) harr⟩
 | panic ch=>exact ⟨_,a₁,w₁,hq,.pass (x:=.inLoop c) rfl (fun _ _=>.inl (by simp)) harr⟩
 | outgrown=>exact ⟨_,a₁,w₁,hq,.pass (x:=.inLoop c) rfl (fun _ _=>.inl (by simp)) harr⟩

theorem leaves_of {l:List IOper} (h:l.all (fun o=>leaves o.guard o.dst)=true):∀g m,(g,m)∈groupsOf l→∀o∈m,leaves g o.dst=true:=by
 intro g m hm o ho
 have hmem:(⟨o.dst,o.op,g⟩:IOper)∈flatG (groupsOf l):=by
  generalize groupsOf l=gs at hm
  induction gs with
  | nil=>simp at hm
  | cons a gs ih=>
   obtain ⟨g',m'⟩:=a
   simp only [flatG,List.mem_append]
   rcases List.mem_cons.1 hm with he | hm
   ·cases he
    left
    simp only [flat1,List.mem_map]
    exact ⟨o,ho,rfl⟩
   ·exact .inr (ih hm)
 rw [flatG_groupsOf] at hmem
 rw [List.all_eq_true] at h
 exact h _ hmem

def LRun (P:Program) (N:Nat) (out:Bool) (c:Code) (f:Nat→Value) (h:Heap) (e:Exit) (f':Nat→Value) (h':Heap):Prop:=
 ∀S,(out=true→S=none)→∀B ρ a w,Rel P N B ρ f h a w→loopWp S P c (Post P N B ρ h w e f' h') a w

theorem loopWp.mono {S:Option Nat} {c:Code} {Q Q':Exit→Act→World→Prop} {a:Act} {w:World} (h:loopWp S P c Q a w) (hq:∀e a w,Q e a w→Q' e a w):loopWp S P c Q' a w:=
 fun b k cs hro=>let ⟨e,a',w',q,r⟩:=h b k cs hro;⟨e,a',w',hq _ _ _ q,r⟩

theorem Post.trans {B:Nat} {ρ ρ₁:RMap} {h h₁ h':Heap} {w w₁:World} {e:Exit} {f':Nat→Value} (T:Tr ρ h w ρ₁ h₁ w₁):∀e' a' w',Post P N B ρ₁ h₁ w₁ e f' h' e' a' w'→Post P N B ρ h w e f' h' e' a' w':=by
 rintro e' a' w' ⟨rfl,ρ',R,T'⟩
 exact ⟨rfl,ρ',R,T.trans T'⟩

variable {out : Bool}

theorem LRun.next {c:Code} {f f₁ f':Nat→Value} {h h₁ h':Heap} {e:Exit} (a:Run P N out c f h .normal f₁ h₁) (b:LRun P N out c f₁ h₁ e f' h'):LRun P N out c f h e f' h':=by
 intro S hS B ρ ac w R
 refine loopWp.round (wpIn_mono (a S hS B ρ ac w R) ?_)
 rintro e' a' w' ⟨rfl,ρ',R',T⟩
 exact (b S hS B ρ' a' w' R').mono (Post.trans T)

theorem LRun.leave {c:Code} {f f':Nat→Value} {h h':Heap} {e:Exit} (he:e≠ .normal) (a:Run P N out c f h e f' h'):LRun P N out c f h e f' h':=by
 intro S hS B ρ ac w R
 refine loopWp.round (wpIn_mono (a S hS B ρ ac w R) ?_)
 rintro e' a' w' ⟨rfl,ρ',R',T⟩
 cases e' <;> first | exact absurd rfl he | exact ⟨rfl,ρ',R',T⟩

theorem LRun.run {c:Code} {f f':Nat→Value} {h h':Heap} {e:Exit} (a:LRun P N out c f h e f' h'):Run P N out (.loop c) f h e f' h':=fun S hS B ρ ac w R=>(a S hS B ρ ac w R).wp

theorem Run.seq {x y:Code} {f f₁ f':Nat→Value} {h h₁ h':Heap} {e:Exit} (a:Run P N out x f h .normal f₁ h₁) (b:Run P N out y f₁ h₁ e f' h'):Run P N out (.seq x y) f h e f' h':=by
 intro S hS B ρ ac w R
 refine wpIn_seq (wpIn_mono (a S hS B ρ ac w R) ?_)
 rintro e' a' w' ⟨rfl,ρ',R',T⟩
 exact wpIn_mono (b S hS B ρ' a' w' R') (Post.trans T)

theorem Run.seq_leave {x y:Code} {f f':Nat→Value} {h h':Heap} {e:Exit} (he:e≠ .normal) (a:Run P N out x f h e f' h'):Run P N out (.seq x y) f h e f' h':=by
 intro S hS B ρ ac w R
 refine wpIn_seq (wpIn_mono (a S hS B ρ ac w R) ?_)
 rintro e' a' w' ⟨rfl,ρ',R',T⟩
 cases e' <;> first | exact absurd rfl he | exact ⟨rfl,ρ',R',T⟩

theorem Run.block {id:Nat} {c:Code} {f f':Nat→Value} {h h':Heap} {e:Exit} (a:Run P N out c f h e f' h'):Run P N out (.block id c) f h (match e with | .exit i=>if i=id then .normal else .exit i | e=>e) f' h':=by
 intro S hS B ρ ac w R
 refine wpIn_block (wpIn_mono (a S hS B ρ ac w R) ?_)
 rintro e' a' w' ⟨rfl,ρ',R',T⟩
 cases e' with
 | exit i=>
  simp only [Exit.inBlock]
  split
  ·exact ⟨rfl,ρ',R',T⟩
  ·exact ⟨rfl,ρ',R',T⟩
 | _=>exact ⟨rfl,ρ',R',T⟩

theorem Run.cond {c:Operand} {x y:Code} {t:Bool} {f f':Nat→Value} {h h':Heap} {e:Exit} (hc:opdOk c=true) (ht:ev f c=.bool t) (a:Run P N out (if t then x else y) f h e f' h'):Run P N out (.cond c x y) f h e f' h':=by
 intro S hS B ρ ac w R
 have:=R.ev hc
 rw [ht] at this
 exact wpIn_cond this.bool_inv (a S hS B ρ ac w R)

theorem Run.region {id:Nat} {ops:Array Oper} {f f':Nat→Value} {h h':Heap} (a:ORun P N ops (List.range ops.size) f h f' h'):Run P N out (.region id ops false) f h .normal f' h':=by
 intro S hS B ρ ac w R
 refine wpIn_region (a S B ρ ac w R _ ?_)
 intro ρ' a' w' R' T
 exact ⟨rfl,ρ',R',T⟩

theorem LRun.weaken {c:Code} {f f₁ f':Nat→Value} {h h':Heap} {e:Exit} (hw:weaker f₁ f) (hr:LRun P N out c f₁ h e f' h'):LRun P N out c f h e f' h':=
 fun S hS B ρ a w R=>hr S hS B ρ a w (R.weaken hw)

end
end Go.Sim


namespace Go.Sim

inductive Valid (ops:Array Oper):List Nat→List Nat→Prop
 | nil {S:List Nat}:(∀i,i<ops.size→i∈S)→Valid ops S []
 | cons {S:List Nat} {i:Nat} {o:Oper} {l:List Nat}:ops[i]?=some o→i∉S→(∀e∈edgesOf o,e∈S)→Valid ops (i::S) l→Valid ops S (i::l)

theorem backOk_get:∀{ops:List Oper} {i:Nat},backOk ops i=true→∀(k:Nat) (o:Oper),ops[k]?=some o→∀e∈edgesOf o,e<i+k
 | [],i,_,k,o,hk=>by simp at hk
 | x::ops,i,h,k,o,hk=>by
  simp only [backOk,Bool.and_eq_true,List.all_eq_true,decide_eq_true_eq] at h
  cases k with
  | zero=>simp at hk;subst hk;exact h.1
  | succ k=>
   intro e he
   have:=backOk_get h.2 k o (by simpa using hk) e he
   omega

def ready (ops:Array Oper) (listed:Array Bool) (i:Nat):Bool:=
 !listed.getD i true&&((ops[i]?).map (·.after.all fun e=> !Region.binds .any e||listed.getD e.on false)).getD false

theorem go_eq (ops:Array Oper) (fuel t:Nat) (listed:Array Bool) (acc:List Nat):
  Region.linearise.go .any ops (fuel+1) t listed acc=
   match ((List.range ops.size).filter (ready ops listed))[t%((List.range ops.size).filter (ready ops listed)).length]? with
   | some i=>Region.linearise.go .any ops fuel (t / ((List.range ops.size).filter (ready ops listed)).length) (listed.setIfInBounds i true) (i::acc)
   | none=>acc.reverse:=by
 rw [Region.linearise.go]
 rfl

theorem ready_spec {ops:Array Oper} {listed:Array Bool} {S:List Nat} (hl:listed.size=ops.size) (hS:∀i,i<ops.size→(listed.getD i false=true↔i∈S)) (hb:∀(k:Nat) (o:Oper),ops[k]?=some o→∀e∈edgesOf o,e<k)
  {i:Nat} (hi:i<ops.size):ready ops listed i=true↔i∉S∧∀o,ops[i]?=some o→∀e∈edgesOf o,e∈S:=by
 have ho:ops[i]?=some ops[i]:=by simp [hi]
 have e1:listed.getD i true=listed.getD i false:=by simp [Array.getD,hl,hi]
 unfold ready
 rw [e1,ho]
 simp only [Option.map_some,Option.getD_some,Bool.and_eq_true,Bool.not_eq_true',Option.some.injEq,forall_eq']
 have h1:listed.getD i false=false↔i∉S:=by
  rw [←hS i hi]
  cases listed.getD i false <;> simp
 rw [h1]
 refine and_congr_right fun _=>?_
 rw [Array.all_eq_true']
 constructor
 ·intro h e he
  have hlt:=hb i _ ho e he
  unfold edgesOf at he
  simp only [List.mem_filterMap] at he
  obtain ⟨x,hx,hxe⟩:=he
  split at hxe
  ·rename_i hbd
   simp at hxe
   subst hxe
   have:=h x (by simpa using hx)
   simp only [Bool.or_eq_true,Bool.not_eq_true',hbd] at this
   exact (hS _ (by omega)).1 (by simpa using this)
  ·cases hxe
 ·intro h x hx
  cases hbd:Region.binds .any x with
  | false=>simp
  | true=>
   have hm:x.on∈edgesOf ops[i]:=by
    unfold edgesOf
    simp only [List.mem_filterMap]
    exact ⟨x,by simpa using hx,by simp [hbd]⟩
   have hlt:=hb i _ ho _ hm
   simp [(hS x.on (by omega)).2 (h _ hm)]

theorem nodup_le:∀{l m:List Nat},l.Nodup→l ⊆ m→l.length≤m.length
 | [],m,_,_=>by simp
 | x::l,m,hd,hs=>by
  have hx:x∈m:=hs (by simp)
  rw [List.nodup_cons] at hd
  have h1:l ⊆ m.erase x:=by
   intro y hy
   have hne:y≠x:=by rintro rfl;exact hd.1 hy
   exact (List.mem_erase_of_ne hne).2 (hs (by simp [hy]))
  have h2:=nodup_le hd.2 h1
  rw [List.length_erase_of_mem hx] at h2
  have:0<m.length:=List.length_pos_of_mem hx
  simp
  omega

theorem countNot {n:Nat} {S:List Nat} (hlen:S.length<n):∃i,i<n∧i∉S∧∀k,k<i→k∈S:=by
 have hex:∃i,i<n∧i∉S:=by
  apply Classical.byContradiction
  intro hno
  have hall:∀i,i<n→i∈S:=fun i hi=>Classical.byContradiction fun h=>hno ⟨i,hi,h⟩
  have hsub:List.range n ⊆ S:=fun i hi=>hall i (List.mem_range.1 hi)
  have:=nodup_le (List.nodup_range (n:=n)) hsub
  simp at this
  omega
 have key:∀m,(∃i,i<m∧i<n∧i∉S)→∃i,i<n∧i∉S∧∀k,k<i→k∈S:=by
  intro m
  induction m with
  | zero=>rintro ⟨i,h,_⟩;omega
  | succ m ih=>
   rintro ⟨i,h1,h2,h3⟩
   by_cases hlo:∃i,i<m∧i<n∧i∉S
   ·exact ih hlo
   ·have him:i=m:=by
     by_cases e:i=m
     ·exact e
     ·exact absurd ⟨i,by omega,h2,h3⟩ hlo
    subst him
    refine ⟨i,h2,h3,fun k hk=>Classical.byContradiction fun hkS=>hlo ⟨k,hk,by omega,hkS⟩⟩
 obtain ⟨i,h1,h2⟩:=hex
 exact key n ⟨i,h1,h1,h2⟩

theorem go_valid {ops:Array Oper} (hb:∀(k:Nat) (o:Oper),ops[k]?=some o→∀e∈edgesOf o,e<k):∀(fuel t:Nat) (listed:Array Bool) (acc:List Nat),listed.size=ops.size→
  (∀i,i<ops.size→(listed.getD i false=true↔i∈acc))→acc.Nodup→(∀i∈acc,i<ops.size)→acc.length+fuel=ops.size→
  ∃l,Region.linearise.go .any ops fuel t listed acc=acc.reverse++l∧Valid ops acc l
 | 0,t,listed,acc,hl,hS,hd,hlt,hf=>by
  refine ⟨[],by simp [Region.linearise.go],.nil ?_⟩
  intro i hi
  apply Classical.byContradiction
  intro h
  have hsub:(i::acc) ⊆ List.range ops.size:=by
   intro x hx
   rcases List.mem_cons.1 hx with rfl | hx
   ·simpa using hi
   ·simpa using hlt x hx
  have:=nodup_le (List.nodup_cons.2 ⟨h,hd⟩) hsub
  simp at this
  omega
 | fuel+1,t,listed,acc,hl,hS,hd,hlt,hf=>by
  rw [go_eq]
  obtain ⟨i0,hi0,hi0n,hi0l⟩:=countNot (n:=ops.size) (S:=acc) (by omega)
  have hr0:ready ops listed i0=true:=(ready_spec hl hS hb hi0).2 ⟨hi0n,fun o ho e he=>hi0l e (hb i0 o ho e he)⟩
  have hpos:0<((List.range ops.size).filter (ready ops listed)).length:=List.length_pos_of_mem (List.mem_filter.2 ⟨List.mem_range.2 hi0,hr0⟩)
  have hget:∃i,((List.range ops.size).filter (ready ops listed))[t%((List.range ops.size).filter (ready ops listed)).length]?=some i:=⟨_,List.getElem?_eq_getElem (Nat.mod_lt _ hpos)⟩
  obtain ⟨i,hi⟩:=hget
  rw [hi]
  have hmem:=List.mem_of_getElem? hi
  simp only [List.mem_filter,List.mem_range] at hmem
  obtain ⟨hin,hready⟩:=hmem
  obtain ⟨hnot,hedges⟩:=(ready_spec hl hS hb hin).1 hready
  obtain ⟨l,h1,h2⟩:=go_valid hb fuel (t / ((List.range ops.size).filter (ready ops listed)).length) (listed.setIfInBounds i true) (i::acc) (by simpa using hl) (by
   intro k hk
   by_cases e:k=i
   ·subst e;simp [Array.getD,hl,hk]
   ·have:(listed.setIfInBounds i true).getD k false=listed.getD k false:=by
     simp only [Array.getD_eq_getD_getElem?,Array.getElem?_setIfInBounds]
     rw [if_neg (Ne.symm e)]
    rw [this,hS k hk]
    simp [e]) (List.nodup_cons.2 ⟨hnot,hd⟩) (by
   intro k hk
   rcases List.mem_cons.1 hk with rfl | hk
   ·exact hin
   ·exact hlt k hk) (by simp;omega)
  refine ⟨i::l,by simp only [h1];simp,?_⟩
  exact .cons (o:=ops[i]) (by simp [hin]) hnot (hedges _ (by simp [hin])) h2

theorem linearise_valid {ops:Array Oper} (hb:backOk ops.toList 0=true) (t:Nat):Valid ops [] (Region.linearise .any ops t):=by
 have hb':∀(k:Nat) (o:Oper),ops[k]?=some o→∀e∈edgesOf o,e<k:=by
  intro k o hk e he
  have:=backOk_get hb k o (by simpa using hk) e he
  omega
 obtain ⟨l,h1,h2⟩:=go_valid hb' ops.size t (Array.replicate ops.size false) [] (by simp) (by intro i hi;simp [Array.getD,hi]) .nil (by simp) (by simp)
 have:Region.linearise .any ops t=l:=by
  unfold Region.linearise
  rw [h1]
  simp
 rw [this]
 exact h2

end Go.Sim


namespace Go.Sim


theorem ev_congr {f f':Nat→Value}:∀{l:List Operand},(∀t∈tmpsOf l,f t=f' t)→∀x∈l,ev f x=ev f' x
 | [],_,x,hx=>by simp at hx
 | y::l,h,x,hx=>by
  have h':∀t∈tmpsOf l,f t=f' t:=by
   intro t ht
   apply h
   cases y <;> simp [tmpsOf,ht]
  rcases List.mem_cons.1 hx with rfl | hx
  ·cases x with
   | tmp t=>exact h t (by simp [tmpsOf])
   | _=>rfl
  ·exact ev_congr h' x hx

theorem map_congr_opds {g g':Operand→Value} {xs:List Operand} (h:∀x∈xs,g x=g' x):xs.map g=xs.map g':=List.map_congr_left h

theorem opt_congr {g g':Operand→Value} {x:Option Operand} (h:∀y∈x.toList,g y=g' y):x.map g=x.map g':=by
 cases x with
 | none=>rfl
 | some y=>simp [h y (by simp)]

theorem parts_congr {g g':Operand→Value} {ps:List (Nat×Nat×Operand)} (h:∀x∈ps.map (·.2.2),g x=g' x):(ps.map fun (o,s,x)=>(o,s,g x))=ps.map fun (o,s,x)=>(o,s,g' x):=by
 apply List.map_congr_left
 rintro ⟨o,s,x⟩ hx
 simp [h x (by simp;exact ⟨o,s,hx⟩)]

theorem ipure_congr {o:POp} {g g':Operand→Value} (h:∀x∈o.opds,g x=g' x):ipure o g=ipure o g':=by
 cases o with
 | minmax mx xs=>
  simp only [ipure]
  rw [map_congr_opds (xs:=xs) h]
 | slS x lo hi=>
  simp only [ipure,POp.opds] at*
  rw [h x (by simp),opt_congr (x:=lo) (fun y hy=>h y (by simp at hy⊢;exact .inr (.inl hy))),opt_congr (x:=hi) (fun y hy=>h y (by simp at hy⊢;exact .inr (.inr hy)))]
 | slSl e s x lo hi=>
  simp only [ipure,POp.opds] at*
  rw [h x (by simp),opt_congr (x:=lo) (fun y hy=>h y (by simp at hy⊢;exact .inr (.inl hy))),opt_congr (x:=hi) (fun y hy=>h y (by simp at hy⊢;exact .inr (.inr hy)))]
 | fn f first captured=>
  simp only [ipure,POp.opds] at*
  rw [map_congr_opds (xs:=first) (fun x hx=>h x (by simp [hx])),map_congr_opds (xs:=captured) (fun x hx=>h x (by simp [hx]))]
 | build zero parts=>
  simp only [ipure]
  rw [parts_congr (ps:=parts) h]
 | _=>simp [POp.opds] at h;simp [ipure,h]

theorem iload_congr {o:LOp} {g g':Operand→Value} (h:∀x∈o.opds,g x=g' x) (H:Heap):iload o g H=iload o g' H:=by
 cases o <;> simp [LOp.opds] at h <;> simp [iload,h]

theorem ieff_congr {o:EOp} {g g':Operand→Value} (h:∀x∈o.opds,g x=g' x) (H:Heap):ieff o g H=ieff o g' H:=by
 cases o with
 | mkSl e n zs ps=>
  simp only [ieff]
  rw [parts_congr (ps:=ps) h]
 | fl a=>
  cases a with
  | mkSl e n zs ps=>
   simp only [ieff]
   rw [parts_congr (ps:=ps) h]
  | _=>simp [EOp.opds,AOp.opds] at h;simp [ieff,h]
 | _=>simp [EOp.opds] at h;simp [ieff,h]

theorem stepK_congr {P:Program} {io:IOp} {f f':Nat→Value} {h:Heap} {K:Value→Heap→Prop} (hf:∀t∈tmpsOf io.opds,f t=f' t):stepK P io f h K↔stepK P io f' h K:=by
 have he:=ev_congr hf
 cases io with
 | p o=>simp only [stepK];rw [ipure_congr he]
 | l o=>simp only [stepK];rw [iload_congr he]
 | e o=>simp only [stepK];rw [ieff_congr he]
 | call g args=>
  simp only [stepK]
  rw [map_congr_opds (xs:=args) he]
 | callv x args=>simp only [stepK];rw [he x (by simp [IOp.opds]),map_congr_opds (xs:=args) (fun y hy=>he y (by simp [IOp.opds,hy]))]


structure Trace (P:Program) (l:List DOper) (j0:Nat) (F:Nat→Nat→Value) (H:Nat→Heap) (V:Nat→Value):Prop where
 upd:∀k o,l[k]?=some o→F (j0+k+1)=updO (F (j0+k)) o.op.dst (V (j0+k))
 gok:∀k o,l[k]?=some o→gOk o.op.guard (F (j0+k))
 yes:∀k o,l[k]?=some o→wantB o.op.guard (F (j0+k))=true→stepK P o.op.op (F (j0+k)) (H (j0+k)) fun v h'=>v=V (j0+k)∧h'=H (j0+k+1)
 no:∀k o,l[k]?=some o→wantB o.op.guard (F (j0+k))=false→V (j0+k)=undef∧H (j0+k+1)=H (j0+k)
 past:∀e oe k ok lo,l[e]?=some oe→oe.op.op.isE=true→l[k]?=some ok→ok.op.op=.l lo→wantB ok.op.guard (F (j0+k))=true→e<k→ok.pre.testBit (j0+e)=false→
  iload lo (ev (F (j0+k))) (H (j0+e))=some (V (j0+k))
 fut:∀k ok lo e oe,l[k]?=some ok→ok.op.op=.l lo→wantB ok.op.guard (F (j0+k))=true→l[e]?=some oe→oe.op.op.isE=true→k<e→oe.pre.testBit (j0+k)=false→
  iload lo (ev (F (j0+k))) (H (j0+e+1))=some (V (j0+k))
 flo:∀k ok a,l[k]?=some ok→ok.op.op=.e (.fl a)→wantB ok.op.guard (F (j0+k))=true→∃u,iObj (H (j0+k+1)) (V (j0+k))=some u∧
  ∀e oe,l[e]?=some oe→oe.op.op.isE=true→k<e→oe.pre.testBit (j0+k)=false→iObj (H (j0+e+1)) (V (j0+k))=some u

theorem chkPast_mem {pre:Nat} {lo:LOp} {f:Nat→Value} {v:Value}:∀{hs:List (Nat×Heap)},chkPast pre lo f v hs→∀e H,(e,H)∈hs→pre.testBit e=false→iload lo (ev f) H=some v
 | [],_,e,H,hm,_=>by simp at hm
 | (e',H')::r,h,e,H,hm,hp=>by
  simp only [chkPast] at h
  rcases List.mem_cons.1 hm with hq | hm
  ·cases hq
   rw [if_neg (by rw [hp];simp)] at h
   exact h.1
  ·split at h
   ·exact chkPast_mem h e H hm hp
   ·exact chkPast_mem h.2 e H hm hp

theorem chkFut_mem {pre:Nat} {H:Heap}:∀{ls:Loads},chkFut pre H ls→∀j lo f v,(j,lo,f,v)∈ls→pre.testBit j=false→iload lo (ev f) H=some v
 | [],_,j,lo,f,v,hm,_=>by simp at hm
 | (j',lo',f',v')::r,h,j,lo,f,v,hm,hp=>by
  simp only [chkFut] at h
  rcases List.mem_cons.1 hm with hq | hm
  ·cases hq
   rw [if_neg (by rw [hp];simp)] at h
   exact h.1
  ·split at h
   ·exact chkFut_mem h j lo f v hm hp
   ·exact chkFut_mem h.2 j lo f v hm hp

def TrExt (P:Program) (l:List DOper) (j:Nat) (heaps:List (Nat×Heap)) (loads:Loads) (K:(Nat→Value)→Heap→Prop) (f:Nat→Value) (h:Heap):Prop:=
 ∃F H V,F j=f∧H j=h∧K (F (j+l.length)) (H (j+l.length))∧Trace P l j F H V∧
  (∀e Hh,(e,Hh)∈heaps→∀k ok lo,l[k]?=some ok→ok.op.op=.l lo→wantB ok.op.guard (F (j+k))=true→ok.pre.testBit e=false→iload lo (ev (F (j+k))) Hh=some (V (j+k)))∧
  (∀i lo ff v,(i,lo,ff,v)∈loads→∀e oe,l[e]?=some oe→oe.op.op.isE=true→oe.pre.testBit i=false→iload lo (ev ff) (H (j+e+1))=some v)

theorem idops_trace {P:Program}:∀{l:List DOper} {j:Nat} {heaps:List (Nat×Heap)} {loads:Loads} {K:(Nat→Value)→Heap→Prop} {f:Nat→Value} {h:Heap},idops P l j heaps loads K f h→TrExt P l j heaps loads K f h
 | [],j,heaps,loads,K,f,h,hi=>
  ⟨fun _=>f,fun _=>h,fun _=>undef,rfl,rfl,hi,⟨fun k o hk=>by simp at hk,fun k o hk=>by simp at hk,fun k o hk=>by simp at hk,fun k o hk=>by simp at hk,fun e oe k ok lo hk=>by simp at hk,fun k ok lo e oe hk=>by simp at hk,fun k ok a hk=>by simp at hk⟩,
   fun e Hh hm k ok lo hk=>by simp at hk,fun i lo ff v hm e oe hk=>by simp at hk⟩
 | o::os,j,heaps,loads,K,f,h,hi=>by
  -- the rest,and how the first step is laid ahead of it
  have key:∀(v:Value) (h':Heap) (heaps':List (Nat×Heap)) (loads':Loads),gOk o.op.guard f→idops P os (j+1) heaps' loads' K (updO f o.op.dst v) h'→
    (∀p∈heaps,p∈heaps')→(∀p∈loads,p∈loads')→(o.op.op.isE=true→(j,h)∈heaps')→(∀lo,o.op.op=.l lo→wantB o.op.guard f=true→(j,lo,f,v)∈loads')→
    (wantB o.op.guard f=true→stepK P o.op.op f h fun u g=>u=v∧g=h')→(wantB o.op.guard f=false→v=undef∧h'=h)→
    (∀lo,o.op.op=.l lo→wantB o.op.guard f=true→∀e Hh,(e,Hh)∈heaps→o.pre.testBit e=false→iload lo (ev f) Hh=some v)→
    (o.op.op.isE=true→∀i lo ff u,(i,lo,ff,u)∈loads→o.pre.testBit i=false→iload lo (ev ff) h'=some u)→
    (∀a,o.op.op=.e (.fl a)→wantB o.op.guard f=true→∃u,iObj h' v=some u∧(j,.obj (.const v),f,u)∈loads')→
    TrExt P (o::os) j heaps loads K f h:=by
   intro v h' heaps' loads' hgk hrest hh hl hE hL hy hn hp hf hfl
   obtain ⟨F,H,V,f1,f2,f3,T,fp,ff⟩:=idops_trace hrest
   have over:∀{α:Type} (x:α) (G:Nat→α),∃G2:Nat→α,G2 j=x∧(∀k,G2 (j+k+1)=G (j+1+k))∧∀k,G2 (j+(k+1))=G (j+1+k):=by
    intro α x G
    refine ⟨fun k=>if k=j then x else G k,by simp,fun k=>?_,fun k=>?_⟩
    ·show (if j+k+1=j then x else G (j+k+1))=_
     rw [if_neg (by omega)]
     congr 1
     omega
    ·show (if j+(k+1)=j then x else G (j+(k+1)))=_
     rw [if_neg (by omega)]
     congr 1
     omega
   obtain ⟨F2,eF0,eF1,eF⟩:=over f F
   obtain ⟨H2,eH0,eH1,eH⟩:=over h H
   obtain ⟨V2,eV0,eV1,eV⟩:=over v V
   have eF10:F2 (j+1)=F (j+1):=eF1 0
   have eH10:H2 (j+1)=H (j+1):=eH1 0
   refine ⟨F2,H2,V2,eF0,eH0,?_,?_,?_,?_⟩
   ·rw [List.length_cons,eF,eH]
    exact f3
   ·constructor
    ·intro k ok hk
     cases k with
     | zero=>
      simp at hk;subst hk
      simp only [Nat.add_zero]
      rw [eF10,eF0,eV0]
      exact f1
     | succ k=>
      have:=T.upd k ok (by simpa using hk)
      rw [eF1,eF,eV,show j+1+(k+1)=j+1+k+1 by omega]
      exact this
    ·intro k ok hk
     cases k with
     | zero=>
      simp at hk;subst hk
      simp only [Nat.add_zero]
      rw [eF0]
      exact hgk
     | succ k=>
      rw [eF]
      exact T.gok k ok (by simpa using hk)
    ·intro k ok hk hw
     cases k with
     | zero=>
      simp at hk;subst hk
      simp only [Nat.add_zero] at hw⊢
      rw [eF0] at hw
      rw [eH10,eF0,eH0,eV0,f2]
      exact hy hw
     | succ k=>
      rw [eF] at hw
      rw [eH1,eF,eH,eV,show j+1+(k+1)=j+1+k+1 by omega]
      exact T.yes k ok (by simpa using hk) hw
    ·intro k ok hk hw
     cases k with
     | zero=>
      simp at hk;subst hk
      simp only [Nat.add_zero] at hw⊢
      rw [eF0] at hw
      rw [eH10,eH0,eV0,f2]
      exact hn hw
     | succ k=>
      rw [eF] at hw
      rw [eH1,eH,eV,show j+1+(k+1)=j+1+k+1 by omega]
      exact T.no k ok (by simpa using hk) hw
    ·intro e oe k ok lo he hE' hk hlo hw hlt hpre
     cases k with
     | zero=>omega
     | succ k=>
      rw [eF] at hw⊢
      rw [eV]
      cases e with
      | zero=>
       simp at he;subst he
       simp only [Nat.add_zero] at hpre⊢
       rw [eH0]
       exact fp j h (hE hE') k ok lo (by simpa using hk) hlo hw hpre
      | succ e=>
       rw [eH]
       rw [show j+(e+1)=j+1+e by omega] at hpre
       exact T.past e oe k ok lo (by simpa using he) hE' (by simpa using hk) hlo hw (by omega) hpre
    ·intro k ok lo e oe hk hlo hw he hE' hlt hpre
     cases e with
     | zero=>omega
     | succ e=>
      rw [eH1,show j+1+(e+1)=j+1+e+1 by omega]
      cases k with
      | zero=>
       simp at hk;subst hk
       simp only [Nat.add_zero] at hw hpre⊢
       rw [eF0] at hw⊢
       rw [eV0]
       exact ff j lo f v (hL lo hlo hw) e oe (by simpa using he) hE' hpre
      | succ k=>
       rw [eF] at hw⊢
       rw [eV]
       rw [show j+(k+1)=j+1+k by omega] at hpre
       exact T.fut k ok lo e oe (by simpa using hk) hlo hw (by simpa using he) hE' (by omega) hpre
    ·intro k ok a hk hop hw
     cases k with
     | zero=>
      simp at hk;subst hk
      simp only [Nat.add_zero] at hw⊢
      rw [eF0] at hw
      obtain ⟨u,u1,u2⟩:=hfl a hop hw
      refine ⟨u,by rw [eH10,eV0,f2];exact u1,?_⟩
      intro e oe he hE' hlt hpre
      cases e with
      | zero=>omega
      | succ e=>
       rw [eH1,show j+1+(e+1)=j+1+e+1 by omega,eV0]
       exact ff j (.obj (.const v)) f u u2 e oe (by simpa using he) hE' hpre
     | succ k=>
      rw [eF] at hw
      obtain ⟨u,u1,u2⟩:=T.flo k ok a (by simpa using hk) hop hw
      refine ⟨u,by rw [eH1,eV,show j+1+(k+1)=j+1+k+1 by omega];exact u1,?_⟩
      intro e oe he hE' hlt hpre
      cases e with
      | zero=>omega
      | succ e=>
       rw [eH1,show j+1+(e+1)=j+1+e+1 by omega,eV]
       rw [show j+(k+1)=j+1+k by omega] at hpre
       exact u2 e oe (by simpa using he) hE' (by omega) hpre
   ·intro e Hh hm k ok lo hk hlo hw hpre
    cases k with
    | zero=>
     simp at hk;subst hk
     simp only [Nat.add_zero] at hw⊢
     rw [eF0] at hw⊢
     rw [eV0]
     exact hp lo hlo hw e Hh hm hpre
    | succ k=>
     rw [eF] at hw⊢
     rw [eV]
     exact fp e Hh (hh _ hm) k ok lo (by simpa using hk) hlo hw hpre
   ·intro i lo ff' u hm e oe he hE' hpre
    cases e with
    | zero=>
     simp at he;subst he
     simp only [Nat.add_zero]
     rw [eH10,f2]
     exact hf hE' i lo ff' u hm hpre
    | succ e=>
     rw [eH1,show j+1+(e+1)=j+1+e+1 by omega]
     exact ff i lo ff' u (hl _ hm) e oe (by simpa using he) hE' hpre
  have go:gOk o.op.guard f→wantB o.op.guard f=true→dwant P o.op.op o.pre j heaps loads f h (fun heaps loads v h'=>idops P os (j+1) heaps loads K (updO f o.op.dst v) h')→TrExt P (o::os) j heaps loads K f h:=fun hgk hw hd=>by
   have eff:o.op.op.isE=true→(∀a,o.op.op≠ .e (.fl a))→stepK P o.op.op f h (fun v h'=>chkFut o.pre h' loads∧idops P os (j+1) (heaps++[(j,h)]) loads K (updO f o.op.dst v) h')→TrExt P (o::os) j heaps loads K f h:=fun hE hnf hs=>by
    have hnl:∀lo,o.op.op≠ .l lo:=by intro lo e;rw [e] at hE;cases hE
    have ex:∃v h',stepK P o.op.op f h (fun u g=>u=v∧g=h')∧chkFut o.pre h' loads∧idops P os (j+1) (heaps++[(j,h)]) loads K (updO f o.op.dst v) h':=by
     generalize o.op.op=io at hs⊢
     cases io with
     | p po=>
      simp only [stepK,oletP] at hs⊢
      split at hs
      ·exact ⟨_,_,⟨rfl,rfl⟩,hs⟩
      ·exact hs.elim
     | l lo=>
      simp only [stepK,oletP] at hs⊢
      split at hs
      ·exact ⟨_,_,⟨rfl,rfl⟩,hs⟩
      ·exact hs.elim
     | e eo=>
      simp only [stepK,oletH] at hs⊢
      split at hs
      ·exact ⟨_,_,⟨rfl,rfl⟩,hs⟩
      ·exact hs.elim
     | call g args=>
      obtain ⟨v,h',hc,hk⟩:=hs
      exact ⟨v,h',⟨v,h',hc,rfl,rfl⟩,hk⟩
     | callv x args=>
      simp only [stepK,callV] at hs⊢
      split at hs
      ·obtain ⟨hco,v,h',hc,hk⟩:=hs
       exact ⟨v,h',⟨hco,v,h',hc,rfl,rfl⟩,hk⟩
      ·obtain ⟨hco,v,h',hc,hk⟩:=hs
       exact ⟨v,h',⟨hco,v,h',hc,rfl,rfl⟩,hk⟩
      ·exact hs.elim
    obtain ⟨v,h',s1,s2,s3⟩:=ex
    exact key v h' _ _ hgk s3 (fun p hp=>by simp [hp]) (fun p hp=>hp) (fun _=>by simp) (fun lo e=>absurd e (hnl lo)) (fun _=>s1) (fun hf=>by rw [hw] at hf;cases hf) (fun lo e=>absurd e (hnl lo))
     (fun _ i lo ff u hm hpre=>chkFut_mem s2 i lo ff u hm hpre) (fun a e=>absurd e (hnf a))
   cases hop:o.op.op with
   | p po=>
    rw [hop] at hd
    simp only [dwant,oletP] at hd
    split at hd
    ·rename_i v hv
     exact key v h _ _ hgk hd (fun p hp=>hp) (fun p hp=>hp) (fun hE=>by rw [hop] at hE;cases hE) (fun lo e=>by rw [hop] at e;cases e) (fun _=>by rw [hop];simp [stepK,oletP,hv]) (fun hf=>by rw [hw] at hf;cases hf)
      (fun lo e=>by rw [hop] at e;cases e) (fun hE=>by rw [hop] at hE;cases hE) (fun a e=>by rw [hop] at e;cases e)
    ·exact hd.elim
   | l lo=>
    rw [hop] at hd
    simp only [dwant,oletP] at hd
    split at hd
    ·rename_i v hv
     exact key v h _ _ hgk hd.2 (fun p hp=>hp) (fun p hp=>by simp [hp]) (fun hE=>by rw [hop] at hE;cases hE) (fun lo' e _=>by rw [hop] at e;cases e;simp) (fun _=>by rw [hop];simp [stepK,oletP,hv]) (fun hf=>by rw [hw] at hf;cases hf)
      (fun lo' e _ e' Hh hm hpre=>by rw [hop] at e;cases e;exact chkPast_mem hd.1 e' Hh hm hpre) (fun hE=>by rw [hop] at hE;cases hE) (fun a e=>by rw [hop] at e;cases e)
    ·exact hd.elim
   | e eo=>
    cases eo with
    | fl a=>
     rw [hop] at hd
     simp only [dwant,oletH] at hd
     split at hd
     ·rename_i v h' hv
      simp only [oletP] at hd
      split at hd
      ·rename_i u hu
       exact key v h' _ _ hgk hd.2 (fun p hp=>by simp [hp]) (fun p hp=>by simp [hp]) (fun _=>by simp) (fun lo e=>by rw [hop] at e;cases e) (fun _=>by rw [hop];simp [stepK,oletH,hv]) (fun hf=>by rw [hw] at hf;cases hf)
        (fun lo e=>by rw [hop] at e;cases e) (fun _ i lo ff u hm hpre=>chkFut_mem hd.1 i lo ff u hm hpre) (fun a' _ _=>⟨u,hu,by simp⟩)
      ·exact hd.elim
     ·exact hd.elim
    | _=>exact eff (by rw [hop];rfl) (fun a e=>by rw [hop] at e;cases e) (by rw [hop] at hd⊢;exact hd)
   | call g args=>exact eff (by rw [hop];rfl) (fun a e=>by rw [hop] at e;cases e) (by rw [hop] at hd⊢;exact hd)
   | callv x args=>exact eff (by rw [hop];rfl) (fun a e=>by rw [hop] at e;cases e) (by rw [hop] at hd⊢;exact hd)
  have skip:gOk o.op.guard f→wantB o.op.guard f=false→dskip o.op.op o.pre j heaps loads h (fun heaps loads v h'=>idops P os (j+1) heaps loads K (updO f o.op.dst v) h')→TrExt P (o::os) j heaps loads K f h:=fun hgk hw hd=>by
   unfold dskip at hd
   split at hd
   ·rename_i hE
    exact key undef h _ _ hgk hd (fun p hp=>hp) (fun p hp=>hp) (fun hE'=>by rw [hE] at hE';cases hE') (fun lo _ hf=>by rw [hw] at hf;cases hf) (fun hf=>by rw [hw] at hf;cases hf) (fun _=>⟨rfl,rfl⟩)
     (fun lo _ hf=>by rw [hw] at hf;cases hf) (fun hE'=>by rw [hE] at hE';cases hE') (fun a _ hf=>by rw [hw] at hf;cases hf)
   ·rename_i hE
    exact key undef h _ _ hgk hd.2 (fun p hp=>by simp [hp]) (fun p hp=>hp) (fun _=>by simp) (fun lo _ hf=>by rw [hw] at hf;cases hf) (fun hf=>by rw [hw] at hf;cases hf) (fun _=>⟨rfl,rfl⟩)
     (fun lo _ hf=>by rw [hw] at hf;cases hf) (fun _ i lo ff u hm hpre=>chkFut_mem hd.1 i lo ff u hm hpre) (fun a _ hf=>by rw [hw] at hf;cases hf)
  simp only [idops] at hi
  split at hi
  ·rename_i hgu
   exact go (by rw [hgu];trivial) (by rw [hgu];rfl) hi
  ·rename_i s b hgu
   obtain ⟨e1,e2⟩:=guardK_cases hi
   rcases e2 with ⟨e2,e3⟩ | ⟨e2,e3⟩
   ·exact go (by rw [hgu];exact e1) (by rw [hgu];exact e2) e3
   ·exact skip (by rw [hgu];exact e1) (by rw [hgu];exact e2) e3


def dflat1 (g:Option (Nat×Bool)) (l:List GDOper):List DOper:=l.map fun o=>⟨⟨o.dst,o.op,g⟩,o.pre⟩

def dflatG:List (Option (Nat×Bool)×List GDOper)→List DOper
 | []=>[]
 | (g,l)::gs=>dflat1 g l++dflatG gs

theorem dflatG_groupsOf:∀os:List DOper,dflatG (dgroupsOf os)=os
 | []=>rfl
 | o::os=>by
  have ih:=dflatG_groupsOf os
  simp only [dgroupsOf]
  cases hg:dgroupsOf os with
  | nil=>
   rw [hg] at ih
   simp only [dflatG] at ih
   subst ih
   simp [dflatG,dflat1]
  | cons a gs=>
   obtain ⟨g,l⟩:=a
   rw [hg] at ih
   simp only
   split
   ·rename_i he
    simp only [dflatG,dflat1,List.map_cons,List.cons_append] at ih⊢
    rw [ih,←he]
   ·simp only [dflatG,dflat1,List.map_cons,List.map_nil,List.cons_append,List.nil_append] at ih⊢
    rw [ih]

theorem dleaves_of {l:List DOper} (h:l.all (fun o=>leaves o.op.guard o.op.dst)=true):∀g m,(g,m)∈dgroupsOf l→∀o∈m,leaves g o.dst=true:=by
 intro g m hm o ho
 have hmem:(⟨⟨o.dst,o.op,g⟩,o.pre⟩:DOper)∈dflatG (dgroupsOf l):=by
  generalize dgroupsOf l=gs at hm
  induction gs with
  | nil=>simp at hm
  | cons a gs ih=>
   obtain ⟨g',m'⟩:=a
   simp only [dflatG,List.mem_append]
   rcases List.mem_cons.1 hm with he | hm
   ·cases he
    left
    simp only [dflat1,List.mem_map]
    exact ⟨o,ho,rfl⟩
   ·exact .inr (ih hm)
 rw [dflatG_groupsOf] at hmem
 rw [List.all_eq_true] at h
 exact h _ hmem

theorem dwant_mono {P:Program} {io:IOp} {pre j:Nat} {heaps:List (Nat×Heap)} {loads:Loads} {f:Nat→Value} {h:Heap} {K K':List (Nat×Heap)→Loads→Value→Heap→Prop} (hm:∀a b v h,K a b v h→K' a b v h)
  (hs:dwant P io pre j heaps loads f h K):dwant P io pre j heaps loads f h K':=by
 cases io with
 | p po=>simp only [dwant,oletP] at hs⊢;split at hs <;> first | exact hm _ _ _ _ hs | exact hs.elim
 | l lo=>simp only [dwant,oletP] at hs⊢;split at hs <;> first | exact ⟨hs.1,hm _ _ _ _ hs.2⟩ | exact hs.elim
 | e eo=>
  cases eo with
  | fl a=>
   simp only [dwant,oletH,oletP] at hs⊢
   split at hs
   ·split at hs <;> first | exact ⟨hs.1,hm _ _ _ _ hs.2⟩ | exact hs.elim
   ·exact hs.elim
  | _=>simp only [dwant,oletH] at hs⊢;split at hs <;> first | exact ⟨hs.1,hm _ _ _ _ hs.2⟩ | exact hs.elim
 | call g args=>exact icall.mono hs fun v h hk=>⟨hk.1,hm _ _ _ _ hk.2⟩
 | callv x args=>simp only [dwant,callV] at hs⊢;split at hs <;> first | exact ⟨hs.1,hs.2.mono fun v h hk=>⟨hk.1,hm _ _ _ _ hk.2⟩⟩ | exact hs.elim

theorem dskip_mono {io:IOp} {pre j:Nat} {heaps:List (Nat×Heap)} {loads:Loads} {h:Heap} {K K':List (Nat×Heap)→Loads→Value→Heap→Prop} (hm:∀a b v h,K a b v h→K' a b v h)
  (hs:dskip io pre j heaps loads h K):dskip io pre j heaps loads h K':=by
 unfold dskip at hs⊢
 split at hs
 ·exact hm _ _ _ _ hs
 ·exact ⟨hs.1,hm _ _ _ _ hs.2⟩

theorem updO_ne {f:Nat→Value} {d:Option Nat} {s:Nat} (hd:d≠some s) (v:Value):updO f d v s=f s:=by
 cases ho:d with
 | none=>rfl
 | some x=>
  have:s≠x:=by rintro rfl;exact hd ho
  simp [updO,upd_eq,this]

theorem gdrun_idops {P:Program} {g:Option (Nat×Bool)} {r:List DOper} {K:(Nat→Value)→Heap→Prop}:∀{l:List GDOper} {j:Nat} {heaps:List (Nat×Heap)} {loads:Loads} {f:Nat→Value} {h:Heap},(∀o∈l,leaves g o.dst=true)→
  (∀s b,g=some (s,b)→isBot (f s)=false∧isB (f s) b=true)→
  gdrun P l j heaps loads (fun heaps loads f h=>idops P r (j+l.length) heaps loads K f h) f h→idops P (dflat1 g l++r) j heaps loads K f h:=by
 intro l
 induction l with
 | nil=>intro j heaps loads f h _ _ hk;exact hk
 | cons o l ih=>
  intro j heaps loads f h hl hg hk
  simp only [gdrun] at hk
  simp only [dflat1,List.map_cons,List.cons_append,idops]
  have step:dwant P o.op o.pre j heaps loads f h fun heaps loads v h'=>idops P (dflat1 g l++r) (j+1) heaps loads K (updO f o.dst v) h':=by
   refine dwant_mono (fun a b v h' hk'=>?_) hk
   refine ih (fun o' ho'=>hl o' (by simp [ho'])) ?_ ?_
   ·intro s bb hs
    have hd:o.dst≠some s:=by have:=hl o (by simp);rw [hs] at this;simpa [leaves] using this
    rw [updO_ne hd]
    exact hg s bb hs
   ·rw [List.length_cons] at hk'
    rw [show j+1+l.length=j+(l.length+1) by omega]
    exact hk'
  cases hgu:g with
  | none=>rw [hgu] at step;exact step
  | some sb=>
   obtain ⟨s,b⟩:=sb
   obtain ⟨e1,e2⟩:=hg s b hgu
   rw [hgu] at step
   exact guardK_mk e1 (fun _=>step) (fun h=>by rw [e2] at h;cases h)

theorem gdskip_idops {P:Program} {s:Nat} {b:Bool} {r:List DOper} {K:(Nat→Value)→Heap→Prop}:∀{l:List GDOper} {j:Nat} {heaps:List (Nat×Heap)} {loads:Loads} {f:Nat→Value} {h:Heap},(∀o∈l,leaves (some (s,b)) o.dst=true)→
  isBot (f s)=false→isB (f s) b=false→
  gdskip l j heaps loads (fun heaps loads f h=>idops P r (j+l.length) heaps loads K f h) f h→idops P (dflat1 (some (s,b)) l++r) j heaps loads K f h:=by
 intro l
 induction l with
 | nil=>intro j heaps loads f h _ _ _ hk;exact hk
 | cons o l ih=>
  intro j heaps loads f h hl e1 e2 hk
  simp only [gdskip] at hk
  simp only [dflat1,List.map_cons,List.cons_append,idops]
  refine guardK_mk e1 (fun h=>by rw [e2] at h;cases h) (fun _=>?_)
  refine dskip_mono (fun a c v h' hk'=>?_) hk
  have hd:o.dst≠some s:=by have:=hl o (by simp);simpa [leaves] using this
  refine ih (fun o' ho'=>hl o' (by simp [ho'])) (by rw [updO_ne hd];exact e1) (by rw [updO_ne hd];exact e2) ?_
  rw [List.length_cons] at hk'
  rw [show j+1+l.length=j+(l.length+1) by omega]
  exact hk'

theorem gdrun_mono {P:Program} {K K':List (Nat×Heap)→Loads→(Nat→Value)→Heap→Prop} (hm:∀a b f h,K a b f h→K' a b f h):∀{l:List GDOper} {j:Nat} {heaps:List (Nat×Heap)} {loads:Loads} {f:Nat→Value} {h:Heap},
  gdrun P l j heaps loads K f h→gdrun P l j heaps loads K' f h
 | [],_,_,_,_,_,hk=>hm _ _ _ _ hk
 | _::_,_,_,_,_,_,hk=>dwant_mono (fun _ _ _ _ hk'=>gdrun_mono hm hk') hk

theorem gdskip_mono {K K':List (Nat×Heap)→Loads→(Nat→Value)→Heap→Prop} (hm:∀a b f h,K a b f h→K' a b f h):∀{l:List GDOper} {j:Nat} {heaps:List (Nat×Heap)} {loads:Loads} {f:Nat→Value} {h:Heap},
  gdskip l j heaps loads K f h→gdskip l j heaps loads K' f h
 | [],_,_,_,_,_,hk=>hm _ _ _ _ hk
 | _::_,_,_,_,_,_,hk=>dskip_mono (fun _ _ _ _ hk'=>gdskip_mono hm hk') hk

theorem gdops_idops {P:Program} {K:(Nat→Value)→Heap→Prop}:∀{gs:List (Option (Nat×Bool)×List GDOper)} {j:Nat} {heaps:List (Nat×Heap)} {loads:Loads} {f:Nat→Value} {h:Heap},(∀g l,(g,l)∈gs→∀o∈l,leaves g o.dst=true)→
  gdops P gs j heaps loads K f h→idops P (dflatG gs) j heaps loads K f h:=by
 intro gs
 induction gs with
 | nil=>intro j heaps loads f h _ hk;exact hk
 | cons a gs ih=>
  obtain ⟨g,l⟩:=a
  intro j heaps loads f h hl hk
  have hl':∀g' l',(g',l')∈gs→∀o∈l',leaves g' o.dst=true:=fun g' l' hm=>hl g' l' (by simp [hm])
  simp only [dflatG]
  cases g with
  | none=>
   simp only [gdops] at hk
   exact gdrun_idops (hl none l (by simp)) (fun s b hs=>by cases hs) (gdrun_mono (fun a b f h hk'=>ih hl' hk') hk)
  | some sb=>
   obtain ⟨s,b⟩:=sb
   simp only [gdops] at hk
   obtain ⟨e1,e2⟩:=guardK_cases hk
   rcases e2 with ⟨e2,e3⟩ | ⟨e2,e3⟩
   ·exact gdrun_idops (hl _ l (by simp)) (fun s' b' hs=>by cases hs;exact ⟨e1,e2⟩) (gdrun_mono (fun a b f h hk'=>ih hl' hk') e3)
   ·exact gdskip_idops (hl _ l (by simp)) e1 e2 (gdskip_mono (fun a b f h hk'=>ih hl' hk') e3)

end Go.Sim


namespace Go.Sim

def fslots (V:Nat→Value) (S:List Nat):List DOper→Nat→(Nat→Value)→(Nat→Value)
 | [],_,f=>f
 | d::ds,i,f=>fslots V S ds (i+1) (if S.contains i then updO f d.op.dst (V i) else f)

theorem fslots_congr {V:Nat→Value} {S S':List Nat} {t:Nat}:∀{l:List DOper} {i:Nat} {f f':Nat→Value},(∀k d,l[k]?=some d→d.op.dst=some t→(i+k∈S↔i+k∈S'))→f t=f' t→fslots V S l i f t=fslots V S' l i f' t
 | [],i,f,f',_,hf=>hf
 | d::ds,i,f,f',h,hf=>by
  simp only [fslots]
  refine fslots_congr (fun k d' hk hd=>?_) ?_
  ·have:=h (k+1) d' (by simpa using hk) hd
   rw [show i+(k+1)=i+1+k by omega] at this
   exact this
  ·by_cases hd:d.op.dst=some t
   ·have:=h 0 d rfl hd
    simp only [Nat.add_zero] at this
    by_cases hi:i∈S
    ·simp [hi,this.1 hi,hd,updO,upd_eq]
    ·have hi':i∉S':=fun h=>hi (this.2 h)
     simp [hi,hi',hf]
   ·have hne:∀v g,updO g d.op.dst v t=g t:=by
     intro v g
     cases hdd:d.op.dst with
     | none=>rfl
     | some x=>
      have:t≠x:=by rintro rfl;exact hd hdd
      simp [updO,upd_eq,this]
    split <;> split <;> simp [hne,hf]

theorem fslots_last {V:Nat→Value} {S:List Nat} {t:Nat}:∀{l:List DOper} {i:Nat} {f:Nat→Value} {k:Nat} {d:DOper},l[k]?=some d→d.op.dst=some t→i+k∈S→
  (∀k' d',l[k']?=some d'→d'.op.dst=some t→k<k'→i+k'∉S)→fslots V S l i f t=V (i+k)
 | [],i,f,k,d,hk,_,_,_=>by simp at hk
 | d0::ds,i,f,k,d,hk,hd,hS,hlast=>by
  simp only [fslots]
  cases k with
  | zero=>
   simp at hk;subst hk
   simp only [Nat.add_zero] at hS⊢
   have:fslots V S ds (i+1) (if S.contains i=true then updO f d0.op.dst (V i) else f) t=fslots V [] ds (i+1) (if S.contains i=true then updO f d0.op.dst (V i) else f) t:=by
    refine fslots_congr (fun k' d' hk' hd'=>?_) rfl
    have:=hlast (k'+1) d' (by simpa using hk') hd' (by omega)
    rw [show i+(k'+1)=i+1+k' by omega] at this
    simp [this]
   rw [this]
   have hnil:∀(l:List DOper) (i:Nat) (f:Nat→Value),fslots V [] l i f=f:=by
    intro l
    induction l with
    | nil=>intro i f;rfl
    | cons a l ih=>intro i f;simp [fslots,ih]
   rw [hnil]
   simp [hS,hd,updO,upd_eq]
  | succ k=>
   have:=fslots_last (V:=V) (S:=S) (l:=ds) (i:=i+1) (f:=if S.contains i=true then updO f d0.op.dst (V i) else f) (k:=k) (d:=d) (by simpa using hk) hd (by rw [show i+1+k=i+(k+1) by omega];exact hS) (by
    intro k' d' hk' hd' hlt
    have:=hlast (k'+1) d' (by simpa using hk') hd' (by omega)
    rw [show i+(k'+1)=i+1+k' by omega] at this
    exact this)
   rw [this]
   congr 1
   omega

theorem fslots_prefix {P:Program} {l:List DOper} {F:Nat→Nat→Value} {H:Nat→Heap} {V:Nat→Value} (T:Trace P l 0 F H V):∀(r:List DOper) (i:Nat) (S:List Nat) (j:Nat),(∀k,r[k]?=l[i+k]?)→(∀k,k∈S↔k<j)→i≤j→j≤i+r.length→
  fslots V S r i (F i)=F j
 | [],i,S,j,_,_,h1,h2=>by
  simp at h2
  obtain rfl:i=j:=by omega
  rfl
 | d::r,i,S,j,hr,hS,h1,h2=>by
  simp only [fslots]
  have h0:=hr 0
  simp only [List.getElem?_cons_zero,Nat.add_zero] at h0
  have hu:=T.upd i d h0.symm
  simp only [Nat.zero_add] at hu
  by_cases hij:i<j
  ·have:i∈S:=(hS i).2 hij
   simp only [List.contains_eq_mem,this,decide_true,if_true]
   rw [←hu]
   exact fslots_prefix T r (i+1) S j (fun k=>by have:=hr (k+1);rw [show i+(k+1)=i+1+k by omega] at this;simpa using this) hS (by omega) (by simp at h2;omega)
  ·obtain rfl:i=j:=by omega
   have hni:i∉S:=fun h=>by have:=(hS i).1 h;omega
   simp only [List.contains_eq_mem,hni,decide_false,Bool.false_eq_true,if_false]
   have hskip:∀(r:List DOper) (k:Nat) (f:Nat→Value),i≤k→fslots V S r k f=f:=by
    intro r
    induction r with
    | nil=>intro k f _;rfl
    | cons a r ih=>
     intro k f hk
     have:k∉S:=fun h=>by have:=(hS k).1 h;omega
     simp [fslots,this,ih (k+1) f (by omega)]
   exact hskip r (i+1) _ (by omega)

def Closed (es:List (List Nat)) (S:List Nat):Prop:=∀j e,j∈S→e∈(es.getD j [])→e∈S

theorem preOf_bit {pres:List Nat}:∀{es:List Nat} {i:Nat},(preOf pres es).testBit i=true→∃e∈es,i=e∨(pres.getD e 0).testBit i=true
 | [],i,h=>by simp [preOf] at h
 | e::es,i,h=>by
  simp only [preOf,Nat.testBit_or,Bool.or_eq_true] at h
  rcases h with (h | h) | h
  ·refine ⟨e,by simp,.inl ?_⟩
   rw [Nat.testBit_two_pow] at h
   exact (by simpa using h:e=i).symm
  ·exact ⟨e,by simp,.inr h⟩
  ·obtain ⟨e',h1,h2⟩:=preOf_bit h
   exact ⟨e',by simp [h1],h2⟩

theorem calcPre_spec:∀{es:List (List Nat)} {acc:List Nat} {all:List (List Nat)},(∀k,es[k]?=all[acc.length+k]?)→(∀j i,j<acc.length→(acc.getD j 0).testBit i=true→∃e∈all.getD j [],i=e∨((calcPre es acc).getD e 0).testBit i=true)→
  (∀j i,((calcPre es acc).getD j 0).testBit i=true→∃e∈all.getD j [],i=e∨((calcPre es acc).getD e 0).testBit i=true):=by
 intro es
 induction es with
 | nil=>
  intro acc all _ hacc j i h
  simp only [calcPre] at h⊢hacc
  by_cases hj:j<acc.length
  ·exact hacc j i hj h
  ·have:acc.getD j 0=0:=by simp [List.getD,Nat.le_of_not_lt hj]
   rw [this] at h
   simp at h
 | cons e0 es ih=>
  intro acc all hall hacc j i h
  simp only [calcPre] at h⊢hacc
  have keep:∀(es:List (List Nat)) (acc:List Nat) (k:Nat),k<acc.length→(calcPre es acc).getD k 0=acc.getD k 0:=by
   intro es
   induction es with
   | nil=>intro acc k _;rfl
   | cons a es ih'=>
    intro acc k hk
    simp only [calcPre]
    rw [ih' _ k (by simp;omega)]
    simp [List.getD,List.getElem?_append_left hk]
  refine ih (acc:=acc++[preOf acc e0]) (all:=all) ?_ ?_ j i h
  ·intro k
   have:=hall (k+1)
   simp only [List.getElem?_cons_succ] at this
   rw [this]
   congr 1
   simp
   omega
  ·intro j' i' hj' hb
   by_cases hlt:j'<acc.length
   ·rw [show (acc++[preOf acc e0]).getD j' 0=acc.getD j' 0 by simp [List.getD,List.getElem?_append_left hlt]] at hb
    exact hacc j' i' hlt hb
   ·obtain rfl:j'=acc.length:=by simp at hj';omega
    rw [show (acc++[preOf acc e0]).getD acc.length 0=preOf acc e0 by simp [List.getD]] at hb
    obtain ⟨e,h1,h2⟩:=preOf_bit hb
    have h0:=hall 0
    simp only [List.getElem?_cons_zero,Nat.add_zero] at h0
    refine ⟨e,by simp [List.getD,←h0,h1],?_⟩
    rcases h2 with h2 | h2
    ·exact .inl h2
    ·right
     have helt:e<acc.length:=by
      apply Classical.byContradiction
      intro hge
      have:acc.getD e 0=0:=by simp [List.getD,Nat.le_of_not_lt hge]
      rw [this] at h2
      simp at h2
     rw [keep _ _ _ (by simp;omega)]
     simpa [List.getD,List.getElem?_append_left helt] using h2

theorem pre_closed {es:List (List Nat)} {S:List Nat} (hS:Closed es S) (hback:∀j e,e∈es.getD j []→e<j):∀(j i:Nat),(∀e∈es.getD j [],e∈S)→((calcPre es []).getD j 0).testBit i=true→i∈S:=by
 intro j
 induction j using Nat.strongRecOn with
 | _ j ih=>
  intro i he hb
  obtain ⟨e,h1,h2⟩:=calcPre_spec (es:=es) (acc:=[]) (all:=es) (fun k=>by simp) (fun j i hj=>by simp at hj) j i hb
  rcases h2 with rfl | h2
  ·exact he _ h1
  ·exact ih e (hback j e h1) i (fun e' he'=>hS e e' (he e h1) he') h2

end Go.Sim


namespace Go.Sim

section
variable {P : Program} {N : Nat}

theorem H_const {l:List DOper} {F:Nat→Nat→Value} {H:Nat→Heap} {V:Nat→Value} (T:Trace P l 0 F H V) {i:Nat}:∀(d:Nat),i+d≤l.length→(∀e oe,l[e]?=some oe→oe.op.op.isE=true→¬(i≤e∧e<i+d))→H (i+d)=H i
 | 0,_,_=>rfl
 | d+1,hl,hE=>by
  have ih:=H_const T d (by omega) (fun e oe h1 h2 h3=>hE e oe h1 h2 ⟨h3.1,by omega⟩)
  have hlt:i+d<l.length:=by omega
  have hget:l[i+d]?=some l[i+d]:=List.getElem?_eq_getElem hlt
  have hnE:l[i+d].op.op.isE=false:=by
   cases hq:l[i+d].op.op.isE with
   | false=>rfl
   | true=>exact absurd ⟨by omega,by omega⟩ (hE (i+d) _ hget hq)
  rw [show i+(d+1)=i+d+1 by omega]
  rw [←ih]
  have hy:=T.yes (i+d) _ hget
  have hn:=T.no (i+d) _ hget
  simp only [Nat.zero_add] at hy hn
  cases hw:wantB l[i+d].op.guard (F (i+d)) with
  | false=>exact (hn hw).2
  | true=>
   have hs:=hy hw
   generalize l[i+d].op.op=io at hs hnE
   cases io with
   | p po=>
    simp only [stepK,oletP] at hs
    split at hs
    ·exact hs.2.symm
    ·exact hs.elim
   | l lo=>
    simp only [stepK,oletP] at hs
    split at hs
    ·exact hs.2.symm
    ·exact hs.elim
   | e eo=>cases hnE
   | call g args=>cases hnE
   | callv x args=>cases hnE

theorem H_const' {l:List DOper} {F:Nat→Nat→Value} {H:Nat→Heap} {V:Nat→Value} (T:Trace P l 0 F H V) {i k:Nat} (hik:i≤k) (hk:k≤l.length) (hE:∀e oe,l[e]?=some oe→oe.op.op.isE=true→¬(i≤e∧e<k)):H k=H i:=by
 have:=H_const T (i:=i) (k-i) (by omega) (fun e oe h1 h2 h3=>hE e oe h1 h2 ⟨h3.1,by omega⟩)
 rw [show i+(k-i)=k by omega] at this
 exact this

def Stage (l:List DOper) (S:List Nat) (m:Nat):Prop:=∀e oe,l[e]?=some oe→oe.op.op.isE=true→(e∈S↔e<m)

theorem pairsOk_get {l:List DOper} (h:pairsOk l=true) {i j:Nat} {oi oj:DOper} (hi:l[i]?=some oi) (hj:l[j]?=some oj):pairOk oj j oi i=true:=by
 unfold pairsOk at h
 rw [List.all_eq_true] at h
 have h1:=h (oj,j) (List.mem_zipIdx_iff_getElem?.2 hj)
 simp only at h1
 rw [List.all_eq_true] at h1
 exact h1 (oi,i) (List.mem_zipIdx_iff_getElem?.2 hi)

theorem pair_slot {oi oj:DOper} {i j t:Nat} (h:pairOk oj j oi i=true) (hne:i≠j) (hd:oi.op.dst=some t) (ht:touches oj t=true):(if i<j then oj.pre.testBit i else oi.pre.testBit j)=true:=by
 unfold pairOk at h
 rw [hd] at h
 simp only [Bool.and_eq_true,Bool.or_eq_true,beq_iff_eq,ht,Bool.not_true,Bool.false_eq_true,false_or] at h
 rcases h.1 with h | h
 ·exact absurd h hne
 ·exact h

theorem pair_eff {oi oj:DOper} {i j:Nat} (h:pairOk oj j oi i=true) (hlt:i<j) (hi:oi.op.op.isE=true) (hj:oj.op.op.isE=true):oj.pre.testBit i=true:=by
 unfold pairOk at h
 simp only [Bool.and_eq_true,hlt,decide_true,hi,hj,Bool.and_self,Bool.not_true,Bool.false_or] at h
 exact h.2

theorem dsim {ops:Array Oper} {l:List DOper} {F:Nat→Nat→Value} {H:Nat→Heap} {V:Nat→Value} (T:Trace P l 0 F H V) (hlen:l.length=ops.size)
  (hcomp:∀(k:Nat) (o:Oper) (d:DOper),ops[k]?=some o→l[k]?=some d→compOper P N ops o=some d.op)
  (hpre:∀k d,l[k]?=some d→d.pre=(calcPre (ops.toList.map edgesOf) []).getD k 0)
  (hback:∀j e,e∈(ops.toList.map edgesOf).getD j []→e<j) (hpairs:pairsOk l=true) {S r:List Nat} (hv:Valid ops S r):
  Closed (ops.toList.map edgesOf) S→(∀i∈S,i<ops.size)→∀m,m≤l.length→Stage l S m→∀S' B ρ a w,Rel P N B ρ (fslots V S l 0 (F 0)) (H m) a w→∀Q:Exit→Act→World→Prop,
   (∀ρ' a' w',Rel P N B ρ' (F l.length) (H l.length) a' w'→Tr ρ (H m) w ρ' (H l.length) w'→Q .normal a' w')→wpOpsIn (FR S') 0 P ops Q r a w:=by
 induction hv with
 | nil hall=>
  rename_i S
  intro hcl hlt m hm hst S' B ρ a w R Q hq
  have hF:fslots V S l 0 (F 0)=F l.length:=by
   have h1:=fslots_prefix T l 0 (List.range l.length) l.length (fun k=>by simp) (fun k=>by simp) (by omega) (by omega)
   rw [←h1]
   funext t
   refine fslots_congr (fun k d hk _=>?_) rfl
   have hkl:=(List.getElem?_eq_some_iff.1 hk).1
   simp only [Nat.zero_add,List.mem_range]
   exact ⟨fun _=>hkl,fun _=>hall k (by omega)⟩
  have hH:H l.length=H m:=by
   refine H_const' T hm (Nat.le_refl _) ?_
   rintro e oe he hE ⟨h1,h2⟩
   have:=(hst e oe he hE).1 (hall e (by omega))
   omega
  rw [hF] at R
  simp only [wpOpsIn]
  refine hq ρ a w (by rw [hH];exact R) ?_
  rw [hH]
  exact Tr.refl R.heap
 | cons hoi hnot hedges hvr ih=>
  rename_i S j o r
  intro hcl hlt m hm hst S' B ρ a w R Q hq
  have hjn:j<ops.size:=(Array.getElem?_eq_some_iff.1 hoi).1
  have hget:l[j]?=some (l[j]'(by omega)):=List.getElem?_eq_getElem _
  generalize hd0:l[j]'(by omega)=d at hget
  have hc:=hcomp j o d hoi hget
  obtain ⟨q1,q2,q3,q4,q5⟩:=compOper_inv hc
  have hes:(ops.toList.map edgesOf).getD j []=edgesOf o:=by
   simp [List.getD,hoi]
  have hcl':Closed (ops.toList.map edgesOf) (j::S):=by
   intro k e hk he
   rcases List.mem_cons.1 hk with rfl | hk
   ·rw [hes] at he
    exact List.mem_cons_of_mem _ (hedges e he)
   ·exact List.mem_cons_of_mem _ (hcl k e hk he)
  have before:∀i,d.pre.testBit i=true→i∈S:=by
   intro i hb
   rw [hpre j d hget] at hb
   exact pre_closed hcl hback j i (by rw [hes];exact hedges) hb
  have behind:∀k dk,l[k]?=some dk→dk.pre.testBit j=true→k∉S:=by
   intro k dk hk hb hkS
   rw [hpre k dk hk] at hb
   exact hnot (pre_closed hcl hback k j (fun e he=>hcl k e hkS he) hb)
  have slot:∀t,touches d t=true→fslots V S l 0 (F 0) t=F j t:=by
   intro t ht
   have h1:=fslots_prefix T l 0 (List.range j) j (fun k=>by simp) (fun k=>by simp) (by omega) (by omega)
   rw [←h1]
   refine fslots_congr (fun k dk hk hdk=>?_) rfl
   simp only [Nat.zero_add,List.mem_range]
   by_cases hkj:k=j
   ·subst hkj
    exact ⟨fun h=>absurd h hnot,fun h=>absurd h (Nat.lt_irrefl _)⟩
   ·have hp:=pair_slot (pairsOk_get hpairs hk hget) hkj hdk ht
    by_cases hlt':k<j
    ·rw [if_pos hlt'] at hp
     exact ⟨fun _=>hlt',fun _=>before k hp⟩
    ·rw [if_neg hlt'] at hp
     exact ⟨fun h=>absurd h (behind k dk hk hp),fun h=>absurd h hlt'⟩
  have hreads:∀t∈d.op.reads,fslots V S l 0 (F 0) t=F j t:=fun t ht=>slot t (by simp [touches,ht])
  have hopds:∀t∈tmpsOf d.op.op.opds,fslots V S l 0 (F 0) t=F j t:=fun t ht=>hreads t (by simp [IOper.reads,ht])
  have hwant:wantB d.op.guard (fslots V S l 0 (F 0))=wantB d.op.guard (F j):=by
   cases hg:d.op.guard with
   | none=>rfl
   | some sb=>
    obtain ⟨s,b⟩:=sb
    simp only [wantB]
    rw [hreads s (by simp [IOper.reads,hg])]
  have hgok:gOk d.op.guard (fslots V S l 0 (F 0)):=by
   have:=T.gok j d hget
   simp only [Nat.zero_add] at this
   cases hg:d.op.guard with
   | none=>trivial
   | some sb=>
    obtain ⟨s,b⟩:=sb
    rw [hg] at this
    simp only [gOk] at this⊢
    rw [hreads s (by simp [IOper.reads,hg])]
    exact this
  have hwr:=wanted_eq q4 R hgok
  have hnew:fslots V (j::S) l 0 (F 0)=updO (fslots V S l 0 (F 0)) o.dst (V j):=by
   rw [←q5]
   funext t
   by_cases hdt:d.op.dst=some t
   ·have h1:=fslots_last (V:=V) (S:=j::S) (l:=l) (i:=0) (f:=F 0) (k:=j) (d:=d) hget hdt (by simp) (by
     intro k' d' hk' hd' hlt'
     have hp:=pair_slot (pairsOk_get hpairs hk' hget) (by omega) hd' (by simp [touches,hdt])
     rw [if_neg (by omega)] at hp
     have:=behind k' d' hk' hp
     simp only [Nat.zero_add,List.mem_cons,not_or]
     exact ⟨by omega,this⟩)
    rw [h1]
    simp [hdt,updO,upd_eq]
   ·have h1:fslots V (j::S) l 0 (F 0) t=fslots V S l 0 (F 0) t:=by
     refine fslots_congr (fun k dk hk hdk=>?_) rfl
     have hkj:k≠j:=by
      rintro rfl
      rw [hget] at hk
      cases hk
      exact hdt hdk
     simp [hkj]
    rw [h1]
    cases hdd:d.op.dst with
    | none=>rfl
    | some x=>
     have:t≠x:=by rintro rfl;exact hdt hdd
     simp [updO,upd_eq,this]
  have hlt2:∀i∈j::S,i<ops.size:=by
   intro i hi
   rcases List.mem_cons.1 hi with rfl | hi
   ·exact hjn
   ·exact hlt i hi
  -- the stage,where the operation writes memory
  have stageE:d.op.op.isE=true→H m=H j∧Stage l (j::S) (j+1):=by
   intro hE
   have hmj:m≤j:=by
    apply Classical.byContradiction
    intro h
    exact hnot ((hst j d hget hE).2 (by omega))
   refine ⟨?_,?_⟩
   ·refine (H_const' T hmj (by omega) ?_).symm
    rintro e oe he hEe ⟨h1,h2⟩
    have hb:=pair_eff (pairsOk_get hpairs he hget) h2 hEe hE
    have:=(hst e oe he hEe).1 (before e hb)
    omega
   ·intro e oe he hEe
    rcases Nat.lt_trichotomy e j with hlt' | rfl | hgt
    ·have hb:=pair_eff (pairsOk_get hpairs he hget) hlt' hEe hE
     exact ⟨fun _=>by omega,fun _=>List.mem_cons_of_mem _ (before e hb)⟩
    ·exact ⟨fun _=>by omega,fun _=>by simp⟩
    ·have hb:=pair_eff (pairsOk_get hpairs hget he) hgt hE hEe
     have:=behind e oe he hb
     constructor
     ·intro h
      rcases List.mem_cons.1 h with h | h
      ·omega
      ·exact absurd h this
     ·intro h;omega
  have stageN:d.op.op.isE=false→Stage l (j::S) m:=by
   intro hE e oe he hEe
   have hne:e≠j:=by
    rintro rfl
    rw [hget] at he
    cases he
    rw [hE] at hEe
    cases hEe
   rw [←hst e oe he hEe]
   simp [hne]
  have hyes:=T.yes j d hget
  have hno:=T.no j d hget
  simp only [Nat.zero_add] at hyes hno
  simp only [wpOpsIn,hoi]
  by_cases hw:wantB d.op.guard (F j)=true
  ·rw [if_pos (by rw [hwr,hwant,hw])]
   have hs:=hyes hw
   by_cases hE:d.op.op.isE=true
   ·obtain ⟨e1,e2⟩:=stageE hE
    rw [←stepK_congr hopds,←e1] at hs
    obtain ⟨v,h',st,hv,hh⟩:=opStep_of (N:=N) q3 q1 hs
    subst hv
    subst hh
    refine st S' B ρ a w R _ _ ?_
    intro ρ' v' w' hvr' HH TT
    have R':=R.putO q2 TT hvr' HH
    rw [←hnew] at R'
    exact ih hcl' hlt2 (j+1) (by omega) e2 S' B ρ' _ w' R' Q fun ρ'' a'' w'' R'' T''=>hq ρ'' a'' w'' R'' (TT.trans T'')
   ·have hE':d.op.op.isE=false:=by simpa using hE
    -- what is looked at has one value at this stage and in the text's order
    have hs':stepK P d.op.op (fslots V S l 0 (F 0)) (H m) fun v h'=>v=V j∧h'=H m:=by
     rw [stepK_congr hopds]
     cases hop:d.op.op with
     | p po=>
      rw [hop] at hs
      simp only [stepK,oletP] at hs⊢
      split at hs
      ·exact ⟨hs.1,trivial⟩
      ·exact hs.elim
     | l lo=>
      have hval:iload lo (ev (F j)) (H m)=some (V j):=by
       have hself:iload lo (ev (F j)) (H j)=some (V j):=by
        rw [hop] at hs
        simp only [stepK,oletP] at hs
        split at hs
        ·rename_i v hv
         rw [hv,hs.1]
        ·exact hs.elim
       rcases Nat.le_total m j with hmj | hmj
       ·by_cases hex:∃e oe,l[e]?=some oe∧oe.op.op.isE=true∧m≤e∧e<j
        ·-- the least of them
         have key:∀n,(∃e oe,l[e]?=some oe∧oe.op.op.isE=true∧m≤e∧e<j∧e<n)→∃e oe,l[e]?=some oe∧oe.op.op.isE=true∧m≤e∧e<j∧∀e' oe',l[e']?=some oe'→oe'.op.op.isE=true→¬(m≤e'∧e'<e):=by
          intro n
          induction n with
          | zero=>rintro ⟨e,oe,_,_,_,_,h⟩;omega
          | succ n ihn=>
           rintro ⟨e,oe,h1,h2,h3,h4,h5⟩
           by_cases hlo:∃e oe,l[e]?=some oe∧oe.op.op.isE=true∧m≤e∧e<j∧e<n
           ·exact ihn hlo
           ·refine ⟨e,oe,h1,h2,h3,h4,?_⟩
            rintro e' oe' k1 k2 ⟨k3,k4⟩
            exact hlo ⟨e',oe',k1,k2,k3,by omega,by omega⟩
         obtain ⟨e0,oe0,g1,g2,g3,g4⟩:=hex
         obtain ⟨e,oe,h1,h2,h3,h4,h5⟩:=key j ⟨e0,oe0,g1,g2,g3,g4,g4⟩
         have hHe:H e=H m:=H_const' T h3 (by omega) (fun e' oe' k1 k2 k3=>h5 e' oe' k1 k2 k3)
         rw [←hHe]
         have hnb:d.pre.testBit e=false:=by
          cases hb:d.pre.testBit e with
          | false=>rfl
          | true=>
           have:=(hst e oe h1 h2).1 (before e hb)
           omega
         have:=T.past e oe j d lo h1 h2 hget hop (by simpa using hw) h4 (by simpa using hnb)
         simpa using this
        ·have hHm:H j=H m:=H_const' T hmj (by omega) (fun e oe h1 h2 h3=>hex ⟨e,oe,h1,h2,h3⟩)
         rw [←hHm]
         exact hself
       ·by_cases hex:∃e oe,l[e]?=some oe∧oe.op.op.isE=true∧j≤e∧e<m
        ·have key:∀n,(∃e oe,l[e]?=some oe∧oe.op.op.isE=true∧j≤e∧e<m∧m≤e+n)→∃e oe,l[e]?=some oe∧oe.op.op.isE=true∧j≤e∧e<m∧∀e' oe',l[e']?=some oe'→oe'.op.op.isE=true→¬(e+1≤e'∧e'<m):=by
          intro n
          induction n with
          | zero=>rintro ⟨e,oe,_,_,_,_,h⟩;omega
          | succ n ihn=>
           rintro ⟨e,oe,h1,h2,h3,h4,h5⟩
           by_cases hlo:∃e oe,l[e]?=some oe∧oe.op.op.isE=true∧j≤e∧e<m∧m≤e+n
           ·exact ihn hlo
           ·refine ⟨e,oe,h1,h2,h3,h4,?_⟩
            rintro e' oe' k1 k2 ⟨k3,k4⟩
            exact hlo ⟨e',oe',k1,k2,by omega,by omega,by omega⟩
         obtain ⟨e0,oe0,g1,g2,g3,g4⟩:=hex
         obtain ⟨e,oe,h1,h2,h3,h4,h5⟩:=key m ⟨e0,oe0,g1,g2,g3,g4,by omega⟩
         have hne:e≠j:=by
          rintro rfl
          rw [hget] at h1
          cases h1
          rw [hE'] at h2
          cases h2
         have hHe:H m=H (e+1):=H_const' T (by omega) hm (fun e' oe' k1 k2 k3=>h5 e' oe' k1 k2 k3)
         rw [hHe]
         have hnb:oe.pre.testBit j=false:=by
          cases hb:oe.pre.testBit j with
          | false=>rfl
          | true=>exact absurd ((hst e oe h1 h2).2 h4) (behind e oe h1 hb)
         have:=T.fut j d lo e oe hget hop (by simpa using hw) h1 h2 (by omega) (by simpa using hnb)
         simpa using this
        ·have hHm:H m=H j:=H_const' T hmj hm (fun e oe h1 h2 h3=>hex ⟨e,oe,h1,h2,h3⟩)
         rw [hHm]
         exact hself
      simp [stepK,oletP,hval]
     | e eo=>rw [hop] at hE';cases hE'
     | call g args=>rw [hop] at hE';cases hE'
     | callv x args=>rw [hop] at hE';cases hE'
    obtain ⟨v,h',st,hv,hh⟩:=opStep_of (N:=N) q3 q1 hs'
    subst hv
    subst hh
    refine st S' B ρ a w R _ _ ?_
    intro ρ' v' w' hvr' HH TT
    have R':=R.putO q2 TT hvr' HH
    rw [←hnew] at R'
    exact ih hcl' hlt2 m hm (stageN hE') S' B ρ' _ w' R' Q fun ρ'' a'' w'' R'' T''=>hq ρ'' a'' w'' R'' (TT.trans T'')
  ·have hw':wantB d.op.guard (F j)=false:=by simpa using hw
   rw [if_neg (by rw [hwr,hwant,hw'];simp)]
   obtain ⟨n1,n2⟩:=hno hw'
   have R':=R.putO q2 (Tr.refl R.heap) (VRel.undef _) R.heap
   rw [n1] at hnew
   rw [←hnew] at R'
   by_cases hE:d.op.op.isE=true
   ·obtain ⟨e1,e2⟩:=stageE hE
    have e3:H (j+1)=H m:=by rw [n2,e1]
    exact ⟨fun _ _=>trivial,ih hcl' hlt2 (j+1) (by omega) e2 S' B ρ _ w (by rw [e3];exact R') Q fun ρ'' a'' w'' R'' T''=>hq ρ'' a'' w'' R'' (by rw [e3] at T'';exact T'')⟩
   ·exact ⟨fun _ _=>trivial,ih hcl' hlt2 m hm (stageN (by simpa using hE)) S' B ρ _ w R' Q hq⟩

theorem zipD_get:∀{ios:List IOper} {ps:List Nat},ios.length≤ps.length→(zipD ios ps).length=ios.length∧∀(k:Nat) (d:DOper),(zipD ios ps)[k]?=some d→ios[k]?=some d.op∧d.pre=ps.getD k 0
 | [],ps,_=>⟨by simp [zipD],fun k d h=>by simp [zipD] at h⟩
 | o::ios,[],h=>by simp at h
 | o::ios,p::ps,h=>by
  obtain ⟨h1,h2⟩:=zipD_get (ios:=ios) (ps:=ps) (by simpa using h)
  refine ⟨by simp [zipD,h1],?_⟩
  intro k d hk
  cases k with
  | zero=>simp [zipD] at hk;subst hk;simp
  | succ k=>
   simp only [zipD,List.getElem?_cons_succ] at hk
   obtain ⟨a,b⟩:=h2 k d hk
   exact ⟨by simpa using a,by simpa [List.getD] using b⟩

theorem calcPre_length:∀(es:List (List Nat)) (acc:List Nat),(calcPre es acc).length=acc.length+es.length
 | [],acc=>by simp [calcPre]
 | e::es,acc=>by simp only [calcPre];rw [calcPre_length];simp;omega

theorem compList_get {ops:Array Oper}:∀{os:List Oper} {l:List IOper},compList P N ops os=some l→l.length=os.length∧∀(k:Nat) (o:Oper) (x:IOper),os[k]?=some o→l[k]?=some x→compOper P N ops o=some x
 | [],l,h=>by
  simp [compList] at h
  subst h
  exact ⟨rfl,fun k o x hk=>by simp at hk⟩
 | o::os,l,h=>by
  obtain ⟨x,xs,h1,h2,rfl⟩:=compList_inv h
  obtain ⟨e1,e2⟩:=compList_get h2
  refine ⟨by simp [e1],?_⟩
  intro k o' x' hk hx
  cases k with
  | zero=>simp at hk hx;subst hk;subst hx;exact h1
  | succ k=>exact e2 k o' x' (by simpa using hk) (by simpa using hx)

theorem idops_sound {out:Bool} {id:Nat} {ops:Array Oper} {l:List DOper} {K:(Nat→Value)→Heap→Prop} {f:Nat→Value} {h:Heap} (hc:compD P N ops=some l) (hi:idops P l 0 [] [] K f h):
  ∃f' h',Run P N out (.region id ops true) f h .normal f' h'∧K f' h':=by
 unfold compD at hc
 split at hc
 ·rename_i ios hios
  split at hc
  ·rename_i hchk
   simp at hc
   simp only [Bool.and_eq_true] at hchk
   obtain ⟨⟨hmix,hbk⟩,hpairs⟩:=hchk
   rw [hc] at hpairs
   obtain ⟨g1,g2⟩:=compList_get hios
   have hlen0:ios.length≤(calcPre (ops.toList.map edgesOf) []).length:=by rw [calcPre_length];simp [g1]
   obtain ⟨z1,z2⟩:=zipD_get hlen0
   rw [hc] at z1 z2
   have hlen:l.length=ops.size:=by rw [z1,g1];simp
   obtain ⟨F,H,V,f1,f2,f3,T,_,_⟩:=idops_trace hi
   simp only [Nat.zero_add] at f3
   refine ⟨F l.length,H l.length,?_,f3⟩
   ·intro S hS B ρ a w R
    refine wpIn_region_draw ?_
    intro t
    have hsched:Region.schedule (P.follows .mixedOrders) ops t=Region.linearise .any ops t:=by
     unfold Region.schedule
     rw [hmix]
     simp
    rw [hsched]
    have hval:=linearise_valid hbk t
    have hback:∀j e,e∈(ops.toList.map edgesOf).getD j []→e<j:=by
     intro j e he
     by_cases hj:j<ops.size
     ·have hg:ops.toList[j]?=some ops[j]:=by simp [hj]
      have:(ops.toList.map edgesOf).getD j []=edgesOf ops[j]:=by simp [List.getD,hj]
      rw [this] at he
      have:=backOk_get hbk j ops[j] hg e he
      omega
     ·have:(ops.toList.map edgesOf).getD j []=[]:=by simp [List.getD,Nat.le_of_not_lt hj]
      rw [this] at he
      simp at he
    have hnil:∀(l:List DOper) (i:Nat) (f:Nat→Value),fslots V [] l i f=f:=by
     intro l
     induction l with
     | nil=>intro i f;rfl
     | cons a l ih=>intro i f;simp [fslots,ih]
    have R1:Rel P N B ρ (fslots V [] l 0 (F 0)) (H 0) a { w with drawn:=w.drawn+1 }:=by
     rw [hnil,f1,f2]
     exact R.mono (Tr.drew R.heap _) (R.heap.drew _)
    refine dsim T hlen ?_ ?_ hback hpairs hval (fun j e hj=>by simp at hj) (fun i hi=>by simp at hi) 0 (by omega) (fun e oe _ _=>by simp) S B ρ a _ R1 _ ?_
    ·intro k o d hk hd
     exact g2 k o d.op (by simpa using hk) (z2 k d hd).1
    ·intro k d hd
     exact (z2 k d hd).2
    ·intro ρ' a' w' R' T'
     refine ⟨rfl,ρ',R',?_⟩
     have T0:=Tr.drew R.heap (w.drawn+1)
     rw [f2] at T'
     exact T0.trans T'
  ·cases hc
 ·cases hc

end
end Go.Sim


namespace Go.Sim

section
variable {P : Program} {w : World} {ρ : RMap} {h : Heap}

theorem HRel.alloc (H:HRel P ρ h w) (b:Obj):HRel P ρ h (w.alloc b)∧Tr ρ h w ρ h (w.alloc b):=by
 have nb:=NewBlock.alloc w b
 refine ⟨⟨?_,H.inj,H.esz⟩,?_⟩
 ·intro i r hi
  obtain ⟨o,ho,hr⟩:=H.obj i r hi
  refine ⟨o,ho,?_⟩
  by_cases hd:o=.dead
  ·subst hd;trivial
  ·exact hr.mono (.refl _) (nb.old (objBlk H hi ⟨o,ho,hd⟩))
 ·exact {
   ext:=.refl _
   len:=Nat.le_refl _
   dom:=fun i r hi=>H.lt hi
   kinds:=fun i _ hm=>hm
   fresh:=fun i s h1 h2=>by rw [h1] at h2;cases h2
   wsize:=by rw [nb.size];omega
   wblk:=fun k hk _=>nb.old hk
   os:=nb.os
   tape:=nb.tape
   output:=nb.output }

theorem putObj_get {l k:Nat} {o:Obj} (hk:k≠l):(w.putObj l o).heap[k]?=w.heap[k]?:=World.putObj_heap_other hk

theorem HRel.put (H:HRel P ρ h w) {l:Nat} (hno:∀j s,ρ j=some s→s.blk=l→¬isLive h j) (o:Obj):HRel P ρ h (w.putObj l o):=by
 refine ⟨?_,H.inj,H.esz⟩
 intro i r hi
 obtain ⟨o',ho,hr⟩:=H.obj i r hi
 refine ⟨o',ho,?_⟩
 by_cases hd:o'=.dead
 ·subst hd;trivial
 ·refine hr.mono (.refl _) (putObj_get ?_)
  intro e
  exact hno i r hi e ⟨o',ho,hd⟩

theorem HRel.isLoop (H:HRel P ρ h w) {l:Nat} {rec:Loop} (hl:w.heap[l]?=some (.loop rec)) {j:Nat} {s:RI} (hj:ρ j=some s) (hs:s.blk=l) (hv:isLive h j):∃c ls vs,h[j]?=some (.loop c ls vs):=by
 obtain ⟨o,ho,hne⟩:=hv
 obtain ⟨o',ho',hr⟩:=H.obj j s hj
 rw [ho] at ho'
 cases ho'
 subst hs
 cases o with
 | ro e xs=>obtain ⟨_,c,_,fr,h2,_⟩:=hr;rw [hl] at h2;cases h2
 | arr e xs=>obtain ⟨_,_,c,h2,_⟩:=hr;rw [hl] at h2;cases h2
 | smap es=>obtain ⟨ents,clock,h1,_⟩:=hr;rw [hl] at h1;cases h1
 | imap kd es=>obtain ⟨ents,clock,h1,_⟩:=hr;rw [hl] at h1;cases h1
 | gmap g c es=>obtain ⟨_,ents,h1,_⟩:=hr;rw [hl] at h1;cases h1
 | iter m s n l=>obtain ⟨_,rm,_,h1⟩:=hr;rw [hl] at h1;cases h1
 | loop c ls vs=>exact ⟨c,ls,vs,ho⟩
 | dead=>exact absurd rfl hne

theorem Tr.late {ρ':RMap} {h':Heap} {w':World} (T:Tr ρ h w ρ' h' w') {l:Nat} (hl:w.heap.size≤l) (o:Obj) (i:Nat):Tr ρ h w ρ' (h'.set i .dead) (w'.putObj l o) where
 ext:=T.ext
 len:=by simpa using T.len
 dom:=T.dom
 kinds:=by
  intro j hj hm
  refine T.kinds j hj ?_
  by_cases e:j=i
  ·subst e
   have hlt:j<h'.length:=Nat.lt_of_lt_of_le hj T.len
   unfold isMut at hm
   rw [List.getElem?_set_self hlt] at hm
   rcases hm with ⟨_,_,h1⟩ | ⟨_,h1⟩ | ⟨_,_,_,h1⟩ | ⟨_,_,h1⟩ | ⟨_,_,_,h1⟩ | ⟨_,_,_,_,h1⟩ <;> cases h1
  ·unfold isMut at hm⊢
   rw [List.getElem?_set_ne (Ne.symm e)] at hm
   exact hm
 fresh:=T.fresh
 wsize:=by rw [World.putObj_size];exact T.wsize
 wblk:=fun k hk hno=>by rw [putObj_get (by omega)];exact T.wblk k hk hno
 os:=T.os
 tape:=T.tape
 output:=T.output

theorem HRel.kill (H:HRel P ρ h w) (i:Nat):HRel P ρ (h.set i .dead) w:=by
 have hm:∀j,isMut (h.set i .dead) j→isMut h j:=by
  intro j hj
  by_cases e:j=i
  ·subst e
   unfold isMut at hj
   by_cases hlt:j<h.length
   ·rw [List.getElem?_set_self hlt] at hj
    rcases hj with ⟨_,_,h1⟩ | ⟨_,h1⟩ | ⟨_,_,_,h1⟩ | ⟨_,_,h1⟩ | ⟨_,_,_,h1⟩ | ⟨_,_,_,_,h1⟩ <;> cases h1
   ·rw [List.getElem?_eq_none (by simpa using Nat.le_of_not_lt hlt)] at hj
    rcases hj with ⟨_,_,h1⟩ | ⟨_,h1⟩ | ⟨_,_,_,h1⟩ | ⟨_,_,h1⟩ | ⟨_,_,_,h1⟩ | ⟨_,_,_,_,h1⟩ <;> cases h1
  ·unfold isMut at hj⊢
   rw [List.getElem?_set_ne (Ne.symm e)] at hj
   exact hj
 have hl:∀j,isLive (h.set i .dead) j→isLive h j:=by
  intro j hj
  by_cases e:j=i
  ·subst e
   obtain ⟨o,ho,hne⟩:=hj
   by_cases hlt:j<h.length
   ·rw [List.getElem?_set_self hlt] at ho
    cases ho
    exact absurd rfl hne
   ·rw [List.getElem?_eq_none (by simpa using Nat.le_of_not_lt hlt)] at ho
    cases ho
  ·unfold isLive at hj⊢
   rw [List.getElem?_set_ne (Ne.symm e)] at hj
   exact hj
 refine ⟨?_,fun a b r s ha hb hrs h1 h2=>H.inj a b r s ha hb hrs (hm a h1) (hl b h2),H.esz⟩
 intro j r hj
 by_cases e:j=i
 ·subst e
  exact ⟨.dead,by rw [List.getElem?_set_self (H.lt hj)],trivial⟩
 ·obtain ⟨o,ho,hr⟩:=H.obj j r hj
  exact ⟨o,by rw [List.getElem?_set_ne (Ne.symm e)];exact ho,hr⟩

theorem run_ofValue {g:FuncId} {first cap:Array Value} (hco:callOk P g=true) (a:Act) (gx:Operand) (hy:a.eval gx=.func (.func g) first cap) (l:Nat) (w:World):
  ∃d,(resolve a.eval (rangeCall gx l) 0).run P w=.ok d w∧(invoke d.target d.args).run P w=.ok (.enter g (first++#[.func (.yield l) #[] #[]]++cap)) w:=by
 refine ⟨_,by simp [resolve,hy,Deferred.ofValue];rfl,?_⟩
 simp [invoke,callFunc_ok hco,Act.eval]

theorem range_sound {N:Nat} {g:Operand} {ps:Array Tmp} {asg body:Code} {ls:List Nat} {K:Heap→Prop} {f:Nat→Value} (hok:opdOk g=true)
  (hi:rangeK P (ev f g) ls (ls.map f) ⟨N,ps,asg,body⟩ h K):∃h',Run P N true (.rangeFunc g ps asg body) f h .normal f h'∧K h':=by
 unfold rangeK at hi
 split at hi
 ·rename_i F first cap hx
  obtain ⟨hco,v,h',hcall,⟨c',ls',vs',hget⟩,hk⟩:=hi
  refine ⟨_,?_,hk⟩
  intro S hS B ρ a w R
  obtain rfl:=hS rfl
  refine wpIn_rangeFunc fun fn _=>?_
  obtain ⟨H0,T0⟩:=R.heap.alloc (.deferred (some []))
  have hsz:(w.alloc (.deferred (some []))).heap.size=w.heap.size+1:=World.size_alloc _ _
  have nb:=NewBlock.alloc (w.alloc (.deferred (some []))) (.loop { state:=.ready,pending:=none,fn,tmps:=a.tmps,params:=ps,assign:=asg,body,defers:=w.heap.size })
  obtain ⟨H1,T1⟩:=H0.new (h₀:=h) (o:=.loop ⟨N,ps,asg,body⟩ ls (ls.map f)) (r:=⟨w.heap.size+1,0,0,P.cellsOf 0,0⟩) nb hsz.symm rfl rfl (fun _=>.inl rfl)
   ⟨_,by rw [←hsz];exact nb.new,rfl,rfl,rfl,rfl,rfl,R.size,fun t=>by
    rcases ofl_weaker f ls t with e | e
    ·rw [e];exact (R.tmp t).mono (RMap.le_add R.heap.none)
    ·rw [e];exact .any _⟩
  have hr:=R.ev hok
  rw [hx] at hr
  generalize hy:a.eval g=y at hr
  cases hr with
  | func _ s1 s2 r1 r2=>
   rename_i first' cap'
   obtain ⟨d,hres,hinv⟩:=run_ofValue (w:=((w.alloc (.deferred (some []))).alloc (.loop { state:=.ready,pending:=none,fn,tmps:=a.tmps,params:=ps,assign:=asg,body,defers:=w.heap.size }))) hco a g hy (w.heap.size+1)
   refine ⟨_,_,_,d,_,F,_,_,run_enterLoop_outer fn a.tmps ps asg body,hres,fun _ _=>trivial,hinv,fun h=>(by cases h),?_⟩
   have hle:=RMap.le_add (r:=⟨w.heap.size+1,0,0,P.cellsOf 0,0⟩) R.heap.none
   have hargs:VsRel (ρ.add h.length ⟨w.heap.size+1,0,0,P.cellsOf 0,0⟩) (first.toList++[.func (.yield h.length) #[] #[]]++cap.toList) (first'++#[Value.func (.yield (w.heap.size+1)) #[] #[]]++cap').toList:=by
    have q1:=(VsRel.toArr s1 r1).mono hle
    have q3:=(VsRel.toArr s2 r2).mono hle
    have q2:VsRel (ρ.add h.length ⟨w.heap.size+1,0,0,P.cellsOf 0,0⟩) [.func (.yield h.length) #[] #[]] [.func (.yield (w.heap.size+1)) #[] #[]]:=
     .cons (VRel.yield (i:=h.length) (r:=⟨w.heap.size+1,0,0,P.cellsOf 0,0⟩) (by simp [RMap.add])) .nil
    simpa using (q1.append q2).append q3
   refine (calls_fr (hcall _ _ _ hargs H1) none _).mono ?_
   rintro e w3 ⟨v',ρ',rfl,hv,H3,T3⟩
   have hρi:ρ' h.length=some ⟨w.heap.size+1,0,0,P.cellsOf 0,0⟩:=T3.ext _ _ (by simp [RMap.add])
   obtain ⟨o,ho,hor⟩:=H3.obj _ _ hρi
   rw [hget] at ho
   cases ho
   obtain ⟨rec,g1,g2,g3,g4,g5,g6,g7,g8⟩:=hor
   have hrun:=run_endLoop (P:=P) g1 (by rw [g2];decide)
   refine ⟨_,_,hrun,?_⟩
   split
   rotate_left
   ·rename_i c hc;rw [g3] at hc;cases hc
   have TT:=(T0.trans (T1.trans T3))
   have Hk:=H3.kill h.length
   have hput:HRel P ρ' (h'.set h.length .dead) (w3.putObj (w.heap.size+1) (.loop { rec with state:=.exhausted })):=by
    refine Hk.put ?_ _
    intro j s hj hs hlv
    obtain ⟨c,_,_,hc⟩:=Hk.isLoop g1 hj hs hlv
    have hne:j≠h.length:=by
     rintro rfl
     rw [List.getElem?_set_self (H3.lt hρi)] at hc
     cases hc
    rw [List.getElem?_set_ne (Ne.symm hne)] at hc
    exact hne (H3.inj _ _ _ _ hj hρi hs (.inr (.inr (.inl ⟨_,_,_,hc⟩))) ⟨_,hget,by simp⟩)
   have TL:=TT.late (l:=w.heap.size+1) (by omega) (.loop { rec with state:=.exhausted }) h.length
   refine ⟨rfl,ρ',⟨R.size,?_,fun t=>(R.tmp t).mono TL.ext,hput⟩,TL⟩
   have hD:(w3.putObj (w.heap.size+1) (.loop { rec with state:=.exhausted })).heap[w.heap.size]?=some (.deferred (some [])):=by
    rw [putObj_get (by omega)]
    have e1:(w.alloc (.deferred (some []))).heap[w.heap.size]?=some (.deferred (some [])):=World.alloc_heap_new _ _
    have e2:=nb.old (k:=w.heap.size) (by omega)
    rw [T3.wblk _ (by rw [nb.size];omega) ?_,e2,e1]
    intro j s hj hs hm
    exact H1.notDef (e2.trans e1) hj hs hm.live
   refine ⟨⟨w.heap.size,rfl,marks.base R.defers,hD,?_⟩,marks.tr R.heap TL R.defers⟩
   intro d' hd' he
   obtain ⟨D,e1,e2⟩:=marks.lt R.defers d' hd'
   rw [e1] at he
   have:=mark_inj he
   omega
 ·exact hi.elim

end
end Go.Sim


namespace Go.Sim

section
variable {P : Program} {N : Nat}

theorem allocOf_congr {a:AOp} {g g':Operand→Value} (h:∀x∈a.opds,g x=g' x):allocOf a g=allocOf a g':=by
 cases a with
 | alloc e zs=>rfl
 | mkSl e n zs ps=>
  simp only [allocOf]
  rw [parts_congr (ps:=ps) h]
 | make e b zs l c=>
  simp only [AOp.opds,List.mem_cons,List.not_mem_nil,or_false,forall_eq_or_imp,forall_eq] at h
  simp only [allocOf,h.1,h.2]
 | mkMapG g=>rfl

theorem allocOf_ren {a:AOp} {g:Operand→Value} {V:Nat→Value} {o:IObj} (h:allocOf a g=some (V,o)) {ρ ρ':RMap} {i j:Nat} {v':Value} (e:ρ' j=ρ i) (hv:VRel ρ (V i) v'):VRel ρ' (V j) v':=by
 have ptr:V=(fun i=>.pointer (some ⟨i,0,none⟩))→VRel ρ' (V j) v':=by
  rintro rfl
  cases hv with
  | ptr hr=>exact .ptr (by rw [e];exact hr)
 have slc:∀t n,V=(fun i=>sl t i 0 n)→VRel ρ' (V j) v':=by
  rintro t n rfl
  cases hv with
  | slice hr a b c d=>exact .slice (by rw [e];exact hr) a b c d
 have mp:V=(fun i=>.map (some i))→VRel ρ' (V j) v':=by
  rintro rfl
  cases hv with
  | map hr=>exact .map (by rw [e];exact hr)
 cases a with
 | mkMapG g=>simp [allocOf] at h;exact mp h.1.symm
 | alloc t zs=>simp [allocOf] at h;exact ptr h.1.symm
 | mkSl t n zs ps=>simp only [allocOf,Option.map_eq_some_iff,Prod.mk.injEq] at h;obtain ⟨_,_,h1,_⟩:=h;exact slc t n h1.symm
 | make t b zs l c=>
  simp only [allocOf] at h
  split at h
  ·split at h
   ·simp at h;exact slc t _ h.1.symm
   ·cases h
  ·cases h

theorem encObj_inv {o:IObj} {u:Value} (h:encObj o=some u):(∃e xs,o=.arr e xs∧(∀x∈xs,noId x=true)∧u=.agg (.int .i64 e::xs).toArray)∨∃g,o=.gmap g 0 []∧u=.tuple #[gcode g]:=by
 unfold encObj at h
 split at h
 ·rename_i e xs
  split at h
  ·rename_i hx
   rw [List.all_eq_true] at hx
   injection h with h
   exact .inl ⟨e,xs,rfl,hx,h.symm⟩
  ·cases h
 ·rename_i g c es
  split at h
  ·rename_i hc
   obtain ⟨rfl,hc⟩:=hc
   rw [List.isEmpty_iff] at hc
   subst hc
   injection h with h
   exact .inr ⟨g,rfl,h.symm⟩
  ·cases h
 ·cases h

theorem gcode_inj {g g':GKind} (h:gcode g=gcode g'):g=g':=by
 cases g <;> cases g' <;> simp [gcode] at h <;> first | rfl | (subst h;rfl) | (obtain ⟨rfl,h⟩:=h;rw [Int.ofNat.inj h]) | (have:=Int.ofNat.inj h.2;rw [h.1,this])

theorem encObj_inj {o o':IObj} {u:Value} (h:encObj o=some u) (h':encObj o'=some u):o=o':=by
 rcases encObj_inv h with ⟨e,xs,rfl,_,h1⟩ | ⟨g,rfl,h1⟩ <;> rcases encObj_inv h' with ⟨e',xs',rfl,_,h2⟩ | ⟨g',rfl,h2⟩
 ·rw [h1] at h2
  simp at h2
  obtain ⟨h3,h4⟩:=h2
  have h3':e=e':=Int.ofNat.inj h3
  rw [h3',h4]
 ·rw [h1] at h2;cases h2
 ·rw [h1] at h2;cases h2
 ·rw [h1] at h2
  simp at h2
  rw [gcode_inj h2]

theorem objRel.noId {ρ ρ':RMap} {w:World} {r:RI} {o:IObj} (hx:(encObj o).isSome=true) (h:objRel ρ w r o):objRel ρ' w r o:=by
 obtain ⟨u,hu⟩:=Option.isSome_iff_exists.1 hx
 rcases encObj_inv hu with ⟨e,xs,rfl,hx,_⟩ | ⟨g,rfl,_⟩
 ·obtain ⟨h1,h0,c,h2,h3,h4⟩:=h
  refine ⟨h1,h0,c,h2,h3,fun j x hj=>?_⟩
  obtain ⟨c1,y,hy,hr⟩:=h4 j x hj
  exact ⟨c1,y,hy,noId.rel (hx x (List.mem_of_getElem? hj)) hr⟩
 ·obtain ⟨h0,ents,h1,h2,h3⟩:=h
  exact ⟨h0,ents,h1,h2,fun j b k v hj=>by simp at hj⟩

theorem HRel.take {ρ ρ':RMap} {h:Heap} {w w':World} {o:IObj} {p:Nat} (R:HRel P ρ h w) (hp:h[p]?=some o) (hx:(encObj o).isSome=true) (hn:ρ p=Option.none)
  (H':HRel P ρ' (h++[o]) w') (T:Tr ρ h w ρ' (h++[o]) w'):HRel P (fun k=>if k=p then ρ' h.length else ρ k) h w':=by
 have hpl:=(List.getElem?_eq_some_iff.1 hp).1
 have new:(h++[o])[h.length]?=some o:=by simp
 have old:∀k,k<h.length→(h++[o])[k]?=h[k]?:=fun k hk=>List.getElem?_append_left hk
 have hle:ρ.le fun k=>if k=p then ρ' h.length else ρ k:=by
  intro k r hr
  have:k≠p:=by rintro rfl;rw [hn] at hr;cases hr
  simp [this,hr]
 have mt:∀k,k<h.length→(isMut h k↔isMut (h++[o]) k):=fun k hk=>by unfold isMut;rw [old k hk]
 have liv:∀k,k<h.length→(isLive h k↔isLive (h++[o]) k):=fun k hk=>by unfold isLive;rw [old k hk]
 have mutn:isMut h p↔isMut (h++[o]) h.length:=by unfold isMut;rw [new,hp]
 have livn:isLive h p↔isLive (h++[o]) h.length:=by unfold isLive;rw [new,hp]
 refine ⟨?_,?_,?_⟩
 ·intro k r hr
  by_cases hk:k=p
  ·subst hk
   simp only [if_true] at hr
   obtain ⟨o',ho',hrel⟩:=H'.obj _ r hr
   rw [new] at ho'
   cases ho'
   exact ⟨_,hp,objRel.noId hx hrel⟩
  ·simp only [if_neg hk] at hr
   obtain ⟨o',ho',hrel⟩:=R.obj k r hr
   obtain ⟨o2,ho2,hrel2⟩:=H'.obj k r (T.ext k r hr)
   rw [old k (R.lt hr),ho'] at ho2
   cases ho2
   exact ⟨o',ho',(hrel.down T.ext hrel2).mono hle rfl⟩
 ·intro a b r s ha hb hrs hm hl
  by_cases ea:a=p <;> by_cases eb:b=p
  ·omega
  ·subst ea
   simp only [if_true] at ha
   simp only [if_neg eb] at hb
   have hbl:=R.lt hb
   have:=H'.inj h.length b r s ha (T.ext b s hb) hrs (mutn.1 hm) ((liv b hbl).1 hl)
   omega
  ·subst eb
   simp only [if_true] at hb
   simp only [if_neg ea] at ha
   have hal:=R.lt ha
   have:=H'.inj a h.length r s (T.ext a r ha) hb hrs ((mt a hal).1 hm) (livn.1 hl)
   omega
  ·simp only [if_neg ea] at ha
   simp only [if_neg eb] at hb
   exact H'.inj a b r s (T.ext a r ha) (T.ext b s hb) hrs ((mt a (R.lt ha)).1 hm) ((liv b (R.lt hb)).1 hl)
 ·intro k r hr
  by_cases hk:k=p
  ·subst hk;simp only [if_true] at hr;exact H'.esz _ r hr
  ·simp only [if_neg hk] at hr;exact R.esz k r hr

theorem Tr.take {ρb ρ ρ':RMap} {hb h:Heap} {wb w w':World} {o:IObj} {p:Nat} (TB:Tr ρb hb wb ρ h w) (hpb:hb.length≤p) (hn:ρ p=Option.none) (T:Tr ρ h w ρ' (h++[o]) w'):
  Tr ρb hb wb (fun k=>if k=p then ρ' h.length else ρ k) h w':=by
 have TT:=TB.trans T
 exact {
  ext:=by
   intro k r hr
   have:=TB.ext k r hr
   have hk:k≠p:=by rintro rfl;rw [hn] at this;cases this
   simp [hk,this]
  len:=TB.len
  dom:=TB.dom
  kinds:=TB.kinds
  fresh:=by
   intro k r hr hk0
   by_cases hk:k=p
   ·subst hk
    simp only [if_true] at hr
    have hbn:ρb h.length=none:=by
     cases hq:ρb h.length with
     | none=>rfl
     | some q=>have:=TB.dom _ _ hq;have:=TB.len;omega
    exact ⟨hpb,(TT.fresh _ r hr hbn).2⟩
   ·simp only [if_neg hk] at hr
    exact TB.fresh k r hr hk0
  wsize:=TT.wsize
  wblk:=TT.wblk
  os:=TT.os
  tape:=TT.tape
  output:=TT.output }

theorem float_fact {l:List DOper} {F:Nat→Nat→Value} {H:Nat→Heap} {V:Nat→Value} (T:Trace P l 0 F H V) {q:Nat} {d:DOper} {a:AOp} (hq:l[q]?=some d) (ho:d.op.op=.e (.fl a)) (hg:d.op.guard=none):
  ∃Vf o,allocOf a (ev (F q))=some (Vf,o)∧V q=Vf (H q).length∧H (q+1)=H q++[o]∧(encObj o).isSome=true∧iObj (H (q+1)) (V q)=encObj o∧
   ∀e' oe,l[e']?=some oe→oe.op.op.isE=true→q<e'→oe.pre.testBit q=false→iObj (H (e'+1)) (V q)=encObj o:=by
 have hw:wantB d.op.guard (F (0+q))=true:=by rw [hg];rfl
 have hy:=T.yes q d hq hw
 obtain ⟨u,u1,u2⟩:=T.flo q d a hq ho hw
 simp only [Nat.zero_add] at hy u1 u2
 rw [ho] at hy
 simp only [stepK,oletH,ieff_fl] at hy
 cases hal:allocOf a (ev (F q)) with
 | none=>rw [hal] at hy;exact hy.elim
 | some p=>
  obtain ⟨Vf,o⟩:=p
  rw [hal] at hy
  simp only [Option.map_some] at hy
  obtain ⟨h1,h2⟩:=hy
  have hid:=allocOf_id hal (H q).length
  rw [h1] at hid
  have henc:iObj (H (q+1)) (V q)=encObj o:=by
   unfold iObj
   rw [hid,←h2]
   simp
  rw [henc] at u1
  exact ⟨Vf,o,rfl,h1.symm,h2.symm,by rw [u1];rfl,henc,fun e' oe he hE hlt hp=>(u2 e' oe he hE hlt hp).trans u1.symm⟩

def StageF (l:List DOper) (S:List Nat) (m:Nat):Prop:=∀e oe,l[e]?=some oe→oe.op.op.isE=true→isFl oe=false→(e∈S↔e<m)

theorem isFl_iff {o:DOper}:isFl o=true↔∃a,o.op.op=.e (.fl a):=by
 unfold isFl
 constructor
 ·intro h
  split at h
  ·rename_i a ha;exact ⟨a,ha⟩
  ·cases h
 ·rintro ⟨a,ha⟩;rw [ha]

structure Laid (P:Program) (N:Nat) (ops:Array Oper) (l:List DOper) (perm:Nat→Nat) (mF:Nat):Prop where
 len:l.length=ops.size
 lt:∀q,q<ops.size→perm q<ops.size
 inj:∀q k,q<ops.size→k<ops.size→perm q=perm k→q=k
 sur:∀j,j<ops.size→∃q,q<ops.size∧perm q=j
 comp:∀q o d,ops[perm q]?=some o→l[q]?=some d→∃x,compOper P N ops o=some x∧x.dst=d.op.dst∧x.guard=d.op.guard∧tmpsOf x.op.opds=tmpsOf d.op.op.opds∧((isFl d=false∧x.op=d.op.op)∨∃a,x.op=.e a.toE∧d.op.op=.e (.fl a)∧d.op.guard=none)
 pre:∀q d,l[q]?=some d→∀k,k<ops.size→d.pre.testBit k=((calcPre (ops.toList.map edgesOf) []).getD (perm q) 0).testBit (perm k)
 back:∀j e,e∈(ops.toList.map edgesOf).getD j []→e<j
 pairs:∀i j oi oj,l[i]?=some oi→l[j]?=some oj→pairOkF oj j oi i=true
 head:mF≤l.length
 low:∀q d,l[q]?=some d→q<mF→d.op.op.isE=true→isFl d=true
 high:∀q d,l[q]?=some d→mF≤q→isFl d=false

theorem pairF_slot {oi oj:DOper} {i j t:Nat} (h:pairOkF oj j oi i=true) (hne:i≠j) (hd:oi.op.dst=some t) (ht:touches oj t=true):(if i<j then oj.pre.testBit i else oi.pre.testBit j)=true:=by
 unfold pairOkF at h
 rw [hd] at h
 simp only [Bool.and_eq_true,Bool.or_eq_true,beq_iff_eq,ht,Bool.not_true,Bool.false_eq_true,false_or] at h
 rcases h.1 with h | h
 ·exact absurd h hne
 ·exact h

theorem pairF_eff {oi oj:DOper} {i j:Nat} (h:pairOkF oj j oi i=true) (hlt:i<j) (hi:oi.op.op.isE=true) (hj:oj.op.op.isE=true) (fi:isFl oi=false) (fj:isFl oj=false):oj.pre.testBit i=true:=by
 unfold pairOkF at h
 simp only [Bool.and_eq_true,hlt,decide_true,hi,hj,fi,fj,Bool.and_self,Bool.not_true,Bool.not_false,Bool.false_or] at h
 exact h.2

theorem head_grow {ops:Array Oper} {l:List DOper} {perm:Nat→Nat} {mF:Nat} (L:Laid P N ops l perm mF) (hgn:∀(q:Nat) (d:DOper),l[q]?=some d→isFl d=true→d.op.guard=none) {F:Nat→Nat→Value} {H:Nat→Heap} {V:Nat→Value} (T:Trace P l 0 F H V) {k:Nat}:∀(d:Nat),k+d≤mF→∃os,H (k+d)=H k++os
 | 0,_=>⟨[],by simp⟩
 | d+1,hd=>by
  obtain ⟨os,hos⟩:=head_grow L hgn T (k:=k) d (by omega)
  have hlt:k+d<l.length:=by have:=L.head;omega
  have hget:l[k+d]?=some l[k+d]:=List.getElem?_eq_getElem hlt
  rw [show k+(d+1)=k+d+1 by omega]
  cases hE:l[k+d].op.op.isE with
  | true=>
   have hf:=L.low (k+d) _ hget (by omega) hE
   obtain ⟨a,ha⟩:=isFl_iff.1 hf
   obtain ⟨_,oo,_,_,h3,_⟩:=float_fact T hget ha (hgn _ _ hget hf)
   exact ⟨os++[oo],by rw [h3,hos];simp⟩
  | false=>
   have:=H_const T (i:=k+d) 1 (by omega) (fun e oe h1 h2 h3=>by
    have:e=k+d:=by omega
    subst this
    rw [hget] at h1
    cases h1
    rw [hE] at h2
    cases h2)
   exact ⟨os,by rw [this,hos]⟩

theorem dsimF {ops:Array Oper} {l:List DOper} {perm:Nat→Nat} {mF:Nat} (L:Laid P N ops l perm mF) (hgn:∀(q:Nat) (d:DOper),l[q]?=some d→isFl d=true→d.op.guard=none) {F:Nat→Nat→Value} {H:Nat→Heap} {V:Nat→Value} (T:Trace P l 0 F H V)
  {ρb:RMap} {wb:World} {S r:List Nat} (hv:Valid ops S r):
  Closed (ops.toList.map edgesOf) S→(∀i∈S,i<ops.size)→∀Sp,(∀q,q∈Sp↔q<ops.size∧perm q∈S)→∀m,mF≤m→m≤l.length→StageF l Sp m→∀S' B ρ a w,Rel P N B ρ (fslots V Sp l 0 (F 0)) (H m) a w→(H mF).length≤(H m).length→
   (∀(q:Nat) (d:DOper),l[q]?=some d→isFl d=true→q∉Sp→ρ (H q).length=none∧iObj (H m) (V q)=iObj (H (q+1)) (V q))→Tr ρb (H 0) wb ρ (H m) w→∀Q:Exit→Act→World→Prop,
   (∀ρ' a' w',Rel P N B ρ' (F l.length) (H l.length) a' w'→Tr ρb (H 0) wb ρ' (H l.length) w'→Q .normal a' w')→wpOpsIn (FR S') 0 P ops Q r a w:=by
 induction hv with
 | nil hall=>
  rename_i S
  intro hcl hlt Sp hSp m hmF hm hst S' B ρ a w R _ _ TB Q hq
  have hin:∀q,q<l.length→q∈Sp:=fun q hq=>(hSp q).2 ⟨by rw [←L.len];exact hq,hall _ (L.lt q (by rw [←L.len];exact hq))⟩
  have hF:fslots V Sp l 0 (F 0)=F l.length:=by
   have h1:=fslots_prefix T l 0 (List.range l.length) l.length (fun k=>by simp) (fun k=>by simp) (by omega) (by omega)
   rw [←h1]
   funext t
   refine fslots_congr (fun k d hk _=>?_) rfl
   have hkl:=(List.getElem?_eq_some_iff.1 hk).1
   simp only [Nat.zero_add,List.mem_range]
   exact ⟨fun _=>hkl,fun _=>hin k hkl⟩
  have hH:H l.length=H m:=by
   refine H_const' T hm (Nat.le_refl _) ?_
   rintro e oe he hE ⟨h1,h2⟩
   have:=(hst e oe he hE (L.high e oe he (by omega))).1 (hin e h2)
   omega
  rw [hF] at R
  simp only [wpOpsIn]
  exact hq ρ a w (by rw [hH];exact R) (by rw [hH];exact TB)
 | cons hoi hnot hedges hvr ih=>
  rename_i S j0 o r
  intro hcl hlt Sp hSp m hmF hm hst S' B ρ a w R hlen hfl TB Q hq
  have hjn0:j0<ops.size:=(Array.getElem?_eq_some_iff.1 hoi).1
  obtain ⟨j,hjn,hj0⟩:=L.sur j0 hjn0
  have hjl:j<l.length:=by rw [L.len];exact hjn
  have hget:l[j]?=some (l[j]'hjl):=List.getElem?_eq_getElem _
  generalize hd0:l[j]'hjl=d at hget
  obtain ⟨x,hc,x1,x2,x3,x4⟩:=L.comp j o d (by rw [hj0];exact hoi) hget
  obtain ⟨q1,q2,q3,q4,q5⟩:=compOper_inv hc
  rw [x2] at q4
  rw [x1] at q5
  have hnotp:j∉Sp:=fun h=>hnot (by rw [←hj0];exact ((hSp j).1 h).2)
  have hes:(ops.toList.map edgesOf).getD j0 []=edgesOf o:=by
   simp [List.getD,hoi]
  have hcl':Closed (ops.toList.map edgesOf) (j0::S):=by
   intro k e hk he
   rcases List.mem_cons.1 hk with rfl | hk
   ·rw [hes] at he
    exact List.mem_cons_of_mem _ (hedges e he)
   ·exact List.mem_cons_of_mem _ (hcl k e hk he)
  have hSp':∀q,q∈j::Sp↔q<ops.size∧perm q∈j0::S:=by
   intro q
   rw [List.mem_cons,List.mem_cons,hSp]
   constructor
   ·rintro (rfl | ⟨h1,h2⟩)
    ·exact ⟨hjn,.inl hj0⟩
    ·exact ⟨h1,.inr h2⟩
   ·rintro ⟨h1,h2 | h2⟩
    ·exact .inl (L.inj q j h1 hjn (h2.trans hj0.symm))
    ·exact .inr ⟨h1,h2⟩
  have before:∀i,i<ops.size→d.pre.testBit i=true→i∈Sp:=by
   intro i hi hb
   rw [L.pre j d hget i hi,hj0] at hb
   exact (hSp i).2 ⟨hi,pre_closed hcl L.back j0 (perm i) (by rw [hes];exact hedges) hb⟩
  have behind:∀k dk,l[k]?=some dk→dk.pre.testBit j=true→k∉Sp:=by
   intro k dk hk hb hkS
   have hkn:k<ops.size:=by rw [←L.len];exact (List.getElem?_eq_some_iff.1 hk).1
   rw [L.pre k dk hk j hjn,hj0] at hb
   have hkS':=((hSp k).1 hkS).2
   exact hnot (pre_closed hcl L.back (perm k) j0 (fun e he=>hcl (perm k) e hkS' he) hb)
  have idx:∀{k dk},l[k]?=some dk→k<ops.size:=fun hk=>by rw [←L.len];exact (List.getElem?_eq_some_iff.1 hk).1
  have slot:∀t,touches d t=true→fslots V Sp l 0 (F 0) t=F j t:=by
   intro t ht
   have h1:=fslots_prefix T l 0 (List.range j) j (fun k=>by simp) (fun k=>by simp) (by omega) (by omega)
   rw [←h1]
   refine fslots_congr (fun k dk hk hdk=>?_) rfl
   simp only [Nat.zero_add,List.mem_range]
   by_cases hkj:k=j
   ·subst hkj
    exact ⟨fun h=>absurd h hnotp,fun h=>absurd h (Nat.lt_irrefl _)⟩
   ·have hp:=pairF_slot (L.pairs k j dk d hk hget) hkj hdk ht
    by_cases hlt':k<j
    ·rw [if_pos hlt'] at hp
     exact ⟨fun _=>hlt',fun _=>before k (idx hk) hp⟩
    ·rw [if_neg hlt'] at hp
     exact ⟨fun h=>absurd h (behind k dk hk hp),fun h=>absurd h hlt'⟩
  have hreads:∀t∈d.op.reads,fslots V Sp l 0 (F 0) t=F j t:=fun t ht=>slot t (by simp [touches,ht])
  have hopds:∀t∈tmpsOf d.op.op.opds,fslots V Sp l 0 (F 0) t=F j t:=fun t ht=>hreads t (by simp [IOper.reads,ht])
  have hwant:wantB d.op.guard (fslots V Sp l 0 (F 0))=wantB d.op.guard (F j):=by
   cases hg:d.op.guard with
   | none=>rfl
   | some sb=>
    obtain ⟨s,b⟩:=sb
    simp only [wantB]
    rw [hreads s (by simp [IOper.reads,hg])]
  have hgok:gOk d.op.guard (fslots V Sp l 0 (F 0)):=by
   have:=T.gok j d hget
   simp only [Nat.zero_add] at this
   cases hg:d.op.guard with
   | none=>trivial
   | some sb=>
    obtain ⟨s,b⟩:=sb
    rw [hg] at this
    simp only [gOk] at this⊢
    rw [hreads s (by simp [IOper.reads,hg])]
    exact this
  have hwr:=wanted_eq q4 R hgok
  have hnew:fslots V (j::Sp) l 0 (F 0)=updO (fslots V Sp l 0 (F 0)) o.dst (V j):=by
   rw [←q5]
   funext t
   by_cases hdt:d.op.dst=some t
   ·have h1:=fslots_last (V:=V) (S:=j::Sp) (l:=l) (i:=0) (f:=F 0) (k:=j) (d:=d) hget hdt (by simp) (by
     intro k' d' hk' hd' hlt'
     have hp:=pairF_slot (L.pairs k' j d' d hk' hget) (by omega) hd' (by simp [touches,hdt])
     rw [if_neg (by omega)] at hp
     have:=behind k' d' hk' hp
     simp only [Nat.zero_add,List.mem_cons,not_or]
     exact ⟨by omega,this⟩)
    rw [h1]
    simp [hdt,updO,upd_eq]
   ·have h1:fslots V (j::Sp) l 0 (F 0) t=fslots V Sp l 0 (F 0) t:=by
     refine fslots_congr (fun k dk hk hdk=>?_) rfl
     have hkj:k≠j:=by
      rintro rfl
      rw [hget] at hk
      cases hk
      exact hdt hdk
     simp [hkj]
    rw [h1]
    cases hdd:d.op.dst with
    | none=>rfl
    | some y=>
     have:t≠y:=by rintro rfl;exact hdt hdd
     simp [updO,upd_eq,this]
  have hlt2:∀i∈j0::S,i<ops.size:=by
   intro i hi
   rcases List.mem_cons.1 hi with rfl | hi
   ·exact hjn0
   ·exact hlt i hi
  -- floats still to come stay asz they are
  have qlow:∀q dq,l[q]?=some dq→isFl dq=true→q<mF:=by
   intro q dq hq hf
   apply Classical.byContradiction
   intro h
   rw [L.high q dq hq (by omega)] at hf
   cases hf
  have qlen:∀q dq,l[q]?=some dq→isFl dq=true→(H q).length<(H mF).length:=by
   intro q dq hq hf
   have hqm:=qlow q dq hq hf
   obtain ⟨a,ha⟩:=isFl_iff.1 hf
   obtain ⟨_,oo,_,_,h3,_⟩:=float_fact T hq ha (hgn _ _ hq hf)
   obtain ⟨os,hos⟩:=head_grow L hgn T (k:=q+1) (mF-(q+1)) (by omega)
   rw [show q+1+(mF-(q+1))=mF by omega,h3] at hos
   rw [hos]
   simp
  have keepNone:∀{ρ':RMap} {h':Heap} {w':World},Tr ρ (H m) w ρ' h' w'→∀q dq,l[q]?=some dq→isFl dq=true→ρ (H q).length=none→ρ' (H q).length=none:=by
   intro ρ' h' w' TT q dq hq hf hn
   cases hr:ρ' (H q).length with
   | none=>rfl
   | some s=>
    have:=(TT.fresh _ s hr hn).1
    have:=qlen q dq hq hf
    omega
  -- the stage,where the operation writes memory
  have stageE:d.op.op.isE=true→isFl d=false→mF≤j∧H m=H j∧StageF l (j::Sp) (j+1):=by
   intro hE hnf
   have hjF:mF≤j:=by
    apply Classical.byContradiction
    intro h
    rw [L.low j d hget (by omega) hE] at hnf
    cases hnf
   have hmj:m≤j:=by
    apply Classical.byContradiction
    intro h
    exact hnotp ((hst j d hget hE hnf).2 (by omega))
   refine ⟨hjF,?_,?_⟩
   ·refine (H_const' T hmj (by omega) ?_).symm
    rintro e oe he hEe ⟨h1,h2⟩
    have hfe:=L.high e oe he (by omega)
    have hb:=pairF_eff (L.pairs e j oe d he hget) h2 hEe hE hfe hnf
    have:=(hst e oe he hEe hfe).1 (before e (idx he) hb)
    omega
   ·intro e oe he hEe hfe
    rcases Nat.lt_trichotomy e j with hlt' | rfl | hgt
    ·have hb:=pairF_eff (L.pairs e j oe d he hget) hlt' hEe hE hfe hnf
     exact ⟨fun _=>by omega,fun _=>List.mem_cons_of_mem _ (before e (idx he) hb)⟩
    ·exact ⟨fun _=>by omega,fun _=>by simp⟩
    ·have hb:=pairF_eff (L.pairs j e d oe hget he) hgt hE hEe hnf hfe
     have:=behind e oe he hb
     constructor
     ·intro h
      rcases List.mem_cons.1 h with h | h
      ·omega
      ·exact absurd h this
     ·intro h;omega
  have stageN:(d.op.op.isE=false∨isFl d=true)→StageF l (j::Sp) m:=by
   intro hE e oe he hEe hfe
   have hne:e≠j:=by
    rintro rfl
    rw [hget] at he
    cases he
    rcases hE with hE | hE
    ·rw [hE] at hEe;cases hEe
    ·rw [hE] at hfe;cases hfe
   rw [←hst e oe he hEe hfe]
   simp [hne]
  have hyes:=T.yes j d hget
  have hno:=T.no j d hget
  simp only [Nat.zero_add] at hyes hno
  simp only [wpOpsIn,hoi]
  by_cases hw:wantB d.op.guard (F j)=true
  ·rw [if_pos (by rw [hwr,hwant,hw])]
   have hs:=hyes hw
   rcases x4 with ⟨hnf,xop⟩ | ⟨aa,xop,dop,dg⟩
   ·rw [xop] at q3
    by_cases hE:d.op.op.isE=true
    ·obtain ⟨e0,e1,e2⟩:=stageE hE hnf
     rw [←stepK_congr hopds,←e1] at hs
     obtain ⟨v,h',st,hv,hh⟩:=opStep_of (N:=N) q3 q1 hs
     subst hv
     subst hh
     refine st S' B ρ a w R _ _ ?_
     intro ρ' v' w' hvr' HH TT
     have R':=R.putO q2 TT hvr' HH
     rw [←hnew] at R'
     refine ih hcl' hlt2 (j::Sp) hSp' (j+1) (by omega) (by omega) e2 S' B ρ' _ w' R' (Nat.le_trans hlen TT.len) ?_ (TB.trans TT) Q hq
     intro q dq hq' hf hqn
     have hqS:q∉Sp:=fun h=>hqn (List.mem_cons_of_mem _ h)
     obtain ⟨i1,i2⟩:=hfl q dq hq' hf hqS
     refine ⟨keepNone TT q dq hq' hf i1,?_⟩
     obtain ⟨a',ha'⟩:=isFl_iff.1 hf
     obtain ⟨_,oo,_,_,_,_,h5,h6⟩:=float_fact T hq' ha' (hgn _ _ hq' hf)
     rw [h5]
     refine h6 j d hget hE (by have:=qlow q dq hq' hf;omega) ?_
     cases hb:d.pre.testBit q with
     | false=>rfl
     | true=>exact absurd (before q (idx hq') hb) hqS
    ·have hE':d.op.op.isE=false:=by simpa using hE
     -- what is looked at has one value at this stage and in the ideal order
     have hs':stepK P d.op.op (fslots V Sp l 0 (F 0)) (H m) fun v h'=>v=V j∧h'=H m:=by
      rw [stepK_congr hopds]
      cases hop:d.op.op with
      | p po=>
       rw [hop] at hs
       simp only [stepK,oletP] at hs⊢
       split at hs
       ·exact ⟨hs.1,trivial⟩
       ·exact hs.elim
      | l lo=>
       have hself:iload lo (ev (F j)) (H j)=some (V j):=by
        rw [hop] at hs
        simp only [stepK,oletP] at hs
        split at hs
        ·rename_i v hv
         rw [hv,hs.1]
        ·exact hs.elim
       -- from a place at or behind the head,to a stage before it
       have down:mF≤j→m≤j→iload lo (ev (F j)) (H m)=some (V j):=by
        intro hjF hmj
        by_cases hex:∃e oe,l[e]?=some oe∧oe.op.op.isE=true∧m≤e∧e<j
        ·have key:∀n,(∃e oe,l[e]?=some oe∧oe.op.op.isE=true∧m≤e∧e<j∧e<n)→∃e oe,l[e]?=some oe∧oe.op.op.isE=true∧m≤e∧e<j∧∀e' oe',l[e']?=some oe'→oe'.op.op.isE=true→¬(m≤e'∧e'<e):=by
          intro n
          induction n with
          | zero=>rintro ⟨e,oe,_,_,_,_,h⟩;omega
          | succ n ihn=>
           rintro ⟨e,oe,h1,h2,h3,h4,h5⟩
           by_cases hlo:∃e oe,l[e]?=some oe∧oe.op.op.isE=true∧m≤e∧e<j∧e<n
           ·exact ihn hlo
           ·refine ⟨e,oe,h1,h2,h3,h4,?_⟩
            rintro e' oe' k1 k2 ⟨k3,k4⟩
            exact hlo ⟨e',oe',k1,k2,k3,by omega,by omega⟩
         obtain ⟨e0,oe0,g1,g2,g3,g4⟩:=hex
         obtain ⟨e,oe,h1,h2,h3,h4,h5⟩:=key j ⟨e0,oe0,g1,g2,g3,g4,g4⟩
         have hHe:H e=H m:=H_const' T h3 (by omega) (fun e' oe' k1 k2 k3=>h5 e' oe' k1 k2 k3)
         rw [←hHe]
         have hnb:d.pre.testBit e=false:=by
          cases hb:d.pre.testBit e with
          | false=>rfl
          | true=>
           have:=(hst e oe h1 h2 (L.high e oe h1 (by omega))).1 (before e (idx h1) hb)
           omega
         have:=T.past e oe j d lo h1 h2 hget hop (by simpa using hw) h4 (by simpa using hnb)
         simpa using this
        ·have hHm:H j=H m:=H_const' T hmj (by omega) (fun e oe h1 h2 h3=>hex ⟨e,oe,h1,h2,h3⟩)
         rw [←hHm]
         exact hself
       -- to a stage behind it,from where the value is known
       have up:∀b,j≤b→mF≤b→b≤m→iload lo (ev (F j)) (H b)=some (V j)→iload lo (ev (F j)) (H m)=some (V j):=by
        intro b hjb hbF hbm hbv
        by_cases hex:∃e oe,l[e]?=some oe∧oe.op.op.isE=true∧b≤e∧e<m
        ·have key:∀n,(∃e oe,l[e]?=some oe∧oe.op.op.isE=true∧b≤e∧e<m∧m≤e+n)→∃e oe,l[e]?=some oe∧oe.op.op.isE=true∧b≤e∧e<m∧∀e' oe',l[e']?=some oe'→oe'.op.op.isE=true→¬(e+1≤e'∧e'<m):=by
          intro n
          induction n with
          | zero=>rintro ⟨e,oe,_,_,_,_,h⟩;omega
          | succ n ihn=>
           rintro ⟨e,oe,h1,h2,h3,h4,h5⟩
           by_cases hlo:∃e oe,l[e]?=some oe∧oe.op.op.isE=true∧b≤e∧e<m∧m≤e+n
           ·exact ihn hlo
           ·refine ⟨e,oe,h1,h2,h3,h4,?_⟩
            rintro e' oe' k1 k2 ⟨k3,k4⟩
            exact hlo ⟨e',oe',k1,k2,by omega,by omega,by omega⟩
         obtain ⟨e0,oe0,g1,g2,g3,g4⟩:=hex
         obtain ⟨e,oe,h1,h2,h3,h4,h5⟩:=key m ⟨e0,oe0,g1,g2,g3,g4,by omega⟩
         have hne:e≠j:=by
          rintro rfl
          rw [hget] at h1
          cases h1
          rw [hE'] at h2
          cases h2
         have hHe:H m=H (e+1):=H_const' T (by omega) hm (fun e' oe' k1 k2 k3=>h5 e' oe' k1 k2 k3)
         rw [hHe]
         have hnb:oe.pre.testBit j=false:=by
          cases hb:oe.pre.testBit j with
          | false=>rfl
          | true=>exact absurd ((hst e oe h1 h2 (L.high e oe h1 (by omega))).2 h4) (behind e oe h1 hb)
         have:=T.fut j d lo e oe hget hop (by simpa using hw) h1 h2 (by omega) (by simpa using hnb)
         simpa using this
        ·have hHm:H m=H b:=H_const' T hbm hm (fun e oe h1 h2 h3=>hex ⟨e,oe,h1,h2,h3⟩)
         rw [hHm]
         exact hbv
       have hval:iload lo (ev (F j)) (H m)=some (V j):=by
        by_cases hjF:mF≤j
        ·rcases Nat.le_total m j with hmj | hmj
         ·exact down hjF hmj
         ·exact up j (Nat.le_refl _) hjF hmj hself
        ·obtain ⟨os,hos⟩:=head_grow L hgn T (k:=j) (mF-j) (by omega)
         rw [show j+(mF-j)=mF by omega] at hos
         refine up mF (by omega) (Nat.le_refl _) hmF ?_
         rw [hos]
         exact iload_app os hself
       simp [stepK,oletP,hval]
      | e eo=>rw [hop] at hE';cases hE'
      | call g args=>rw [hop] at hE';cases hE'
      | callv x args=>rw [hop] at hE';cases hE'
     obtain ⟨v,h',st,hv,hh⟩:=opStep_of (N:=N) q3 q1 hs'
     subst hv
     subst hh
     refine st S' B ρ a w R _ _ ?_
     intro ρ' v' w' hvr' HH TT
     have R':=R.putO q2 TT hvr' HH
     rw [←hnew] at R'
     refine ih hcl' hlt2 (j::Sp) hSp' m hmF hm (stageN (.inl hE')) S' B ρ' _ w' R' hlen ?_ (TB.trans TT) Q hq
     intro q dq hq' hf hqn
     obtain ⟨i1,i2⟩:=hfl q dq hq' hf (fun h=>hqn (List.mem_cons_of_mem _ h))
     exact ⟨keepNone TT q dq hq' hf i1,i2⟩
   ·-- a new object
    have hf:isFl d=true:=isFl_iff.2 ⟨aa,dop⟩
    obtain ⟨Vf,oo,h1,h2,h3,h4,h5,h6⟩:=float_fact T hget dop dg
    obtain ⟨i1,i2⟩:=hfl j d hget hf hnotp
    have hal:allocOf aa (ev (fslots V Sp l 0 (F 0)))=some (Vf,oo):=by
     rw [←h1]
     refine allocOf_congr (ev_congr fun t ht=>hopds t ?_)
     rw [dop]
     exact ht
    have hid:=allocOf_id h1 (H j).length
    rw [←h2] at hid
    have hobj:(H m)[(H j).length]?=some oo:=by
     rw [h5] at i2
     unfold iObj at i2
     rw [hid] at i2
     simp only [Option.bind_some] at i2
     cases ho:(H m)[(H j).length]? with
     | none=>
      rw [ho] at i2
      obtain ⟨u,hu⟩:=Option.isSome_iff_exists.1 h4
      rw [hu] at i2
      cases i2
     | some o'=>
      rw [ho] at i2
      obtain ⟨u,henc⟩:=Option.isSome_iff_exists.1 h4
      simp only [Option.bind_some] at i2
      rw [encObj_inj (i2.trans henc) henc]
    have hst1:stepK P x.op (fslots V Sp l 0 (F 0)) (H m) fun v h'=>v=Vf (H m).length∧h'=H m++[oo]:=by
     rw [xop]
     simp only [stepK,oletH,ieff_toE,ieff_fl,hal,Option.map_some]
     exact ⟨trivial,trivial⟩
    obtain ⟨v,h',st,hv,hh⟩:=opStep_of (N:=N) q3 q1 hst1
    subst hv
    subst hh
    refine st S' B ρ a w R _ _ ?_
    intro ρ' v' w' hvr' HH TT
    have HR:=R.heap.take hobj h4 i1 HH TT
    have hle:ρ.le fun k=>if k=(H j).length then ρ' (H m).length else ρ k:=by
     intro k s hk
     have:k≠(H j).length:=by rintro rfl;rw [i1] at hk;cases hk
     simp [this,hk]
    have R1:Rel P N B (fun k=>if k=(H j).length then ρ' (H m).length else ρ k) (fslots V Sp l 0 (F 0)) (H m) a w':=⟨R.size,marks.tr R.heap TT R.defers,fun t=>(R.tmp t).mono hle,HR⟩
    have hvv:VRel (fun k=>if k=(H j).length then ρ' (H m).length else ρ k) (V j) v':=by
     rw [h2]
     exact allocOf_ren h1 (by simp) hvr'
    have R':=R1.putO q2 (Tr.refl HR) hvv HR
    rw [←hnew] at R'
    have hjb:(H 0).length≤(H j).length:=by
     obtain ⟨os,hos⟩:=head_grow L hgn T (k:=0) j (by have:=qlow j d hget hf;omega)
     rw [Nat.zero_add] at hos
     rw [hos];simp
    refine ih hcl' hlt2 (j::Sp) hSp' m hmF hm (stageN (.inr hf)) S' B _ _ w' R' hlen ?_ (TB.take hjb i1 TT) Q hq
    intro q dq hq' hfq hqn
    have hqj:q≠j:=fun h=>hqn (by simp [h])
    obtain ⟨k1,k2⟩:=hfl q dq hq' hfq (fun h=>hqn (List.mem_cons_of_mem _ h))
    refine ⟨?_,k2⟩
    have hne:(H q).length≠(H j).length:=by
     have grow:∀{a b:Nat} {da:DOper},l[a]?=some da→isFl da=true→a<b→b<mF→(H a).length<(H b).length:=by
      intro a b da ha hfa hab hb
      obtain ⟨a',ha'⟩:=isFl_iff.1 hfa
      obtain ⟨_,oo',_,_,g3,_⟩:=float_fact T ha ha' (hgn _ _ ha hfa)
      obtain ⟨os,hos⟩:=head_grow L hgn T (k:=a+1) (b-(a+1)) (by omega)
      rw [show a+1+(b-(a+1))=b by omega,g3] at hos
      rw [hos]
      simp
     rcases Nat.lt_or_gt_of_ne hqj with h | h
     ·have:=grow hq' hfq h (qlow j d hget hf);omega
     ·have:=grow hget hf h (qlow q dq hq' hfq);omega
    simp [hne,k1]
  ·have hw':wantB d.op.guard (F j)=false:=by simpa using hw
   rw [if_neg (by rw [hwr,hwant,hw'];simp)]
   obtain ⟨n1,n2⟩:=hno hw'
   have R':=R.putO q2 (Tr.refl R.heap) (VRel.undef _) R.heap
   rw [n1] at hnew
   rw [←hnew] at R'
   have hnf:isFl d=false:=by
    cases hf:isFl d with
    | false=>rfl
    | true=>rw [hgn j d hget hf] at hw';cases hw'
   by_cases hE:d.op.op.isE=true
   ·obtain ⟨e0,e1,e2⟩:=stageE hE hnf
    have e3:H (j+1)=H m:=by rw [n2,e1]
    refine ⟨fun _ _=>trivial,ih hcl' hlt2 (j::Sp) hSp' (j+1) (by omega) (by omega) e2 S' B ρ _ w (by rw [e3];exact R') (by rw [e3];exact hlen) ?_ (by rw [e3];exact TB) Q hq⟩
    intro q dq hq' hf hqn
    rw [e3]
    exact hfl q dq hq' hf (fun h=>hqn (List.mem_cons_of_mem _ h))
   ·exact ⟨fun _ _=>trivial,ih hcl' hlt2 (j::Sp) hSp' m hmF hm (stageN (.inl (by simpa using hE))) S' B ρ _ w R' hlen (fun q dq hq' hf hqn=>hfl q dq hq' hf (fun h=>hqn (List.mem_cons_of_mem _ h))) TB Q hq⟩

end
end Go.Sim


namespace Go.Sim

section
variable {P : Program} {N : Nat}

theorem compE_nfl {op:Op} {a:AOp} (h:compE P op=some (.fl a)):False:=by
 unfold compE at h
 split at h
 all_goals repeat' (split at h)
 all_goals first | (cases h;done) | (simp at h;done) | (simp only [Option.map_eq_some_iff] at h;obtain ⟨_,_,h⟩:=h;cases h;done)

theorem compOp_nfl {op:Op} {a:AOp} (h:compOp P op=some (.e (.fl a))):False:=by
 rcases compOp_inv h with ⟨po,e,_⟩ | ⟨lo,e,_⟩ | ⟨eo,e,he⟩ | ⟨g,args,at_,_,_,e⟩ | ⟨x,args,at_,_,e⟩
 ·cases e
 ·cases e
 ·cases e;exact compE_nfl he
 ·cases e
 ·cases e

theorem distinctN_nodup:∀{l:List Nat},distinctN l=true→l.Nodup
 | [],_=>.nil
 | x::xs,h=>by
  simp only [distinctN,Bool.and_eq_true] at h
  rw [List.nodup_cons]
  exact ⟨by simpa using h.1,distinctN_nodup h.2⟩

theorem laidF_get {l:List DOper} {fl:List Nat} {p0:List Nat}:∀{perm:List Nat},(∀i∈perm,i<l.length)→∀q:Nat,
  (perm.filterMap fun i=>(l[i]?).map fun o=>(⟨if fl.contains i then flagF o.op else o.op,maskOf o.pre p0 0⟩:DOper))[q]?=(perm[q]?).bind fun i=>(l[i]?).map fun o=>⟨if fl.contains i then flagF o.op else o.op,maskOf o.pre p0 0⟩
 | [],_,q=>by simp
 | i::perm,h,q=>by
  have hil:i<l.length:=h i (by simp)
  have hi:l[i]?=some l[i]:=List.getElem?_eq_getElem hil
  rw [List.filterMap_cons,hi]
  simp only [Option.map_some]
  cases q with
  | zero=>simp [hi]
  | succ q=>
   rw [List.getElem?_cons_succ,List.getElem?_cons_succ]
   exact laidF_get (fun i hi=>h i (by simp [hi])) q

theorem compF_laid {ops:Array Oper} {l:List DOper} {perm:List Nat} (hc:compF P N ops=some (l,perm)):P.follows .mixedOrders=true∧backOk ops.toList 0=true∧Laid P N ops l (fun q=>perm.getD q 0) (headF l)∧∀(q:Nat) (d:DOper),l[q]?=some d→isFl d=true→d.op.guard=none:=by
 unfold compF at hc
 split at hc
 ·rename_i ios hios
  simp only at hc
  split at hc
  ·rename_i hchk
   simp only [Option.some.injEq,Prod.mk.injEq] at hc
   obtain ⟨hl,hp⟩:=hc
   rw [hp] at hl hchk
   rw [hl] at hchk
   simp only [Bool.and_eq_true] at hchk
   obtain ⟨⟨hmix,hbk⟩,hok⟩:=hchk
   obtain ⟨g1,g2⟩:=compList_get hios
   have hpl:(calcPre (ops.toList.map edgesOf) []).length=ops.size:=by rw [calcPre_length];simp
   have hlen0:ios.length≤(calcPre (ops.toList.map edgesOf) []).length:=by rw [calcPre_length];simp [g1]
   obtain ⟨z1,z2⟩:=zipD_get hlen0
   have hz:(zipD ios (calcPre (ops.toList.map edgesOf) [])).length=ops.size:=by rw [z1,g1];simp
   unfold okF at hok
   simp only [Bool.and_eq_true,beq_iff_eq] at hok
   obtain ⟨⟨⟨⟨⟨⟨⟨o1,o2⟩,o3⟩,o4⟩,o5⟩,o6⟩,o7⟩,o8⟩:=hok
   rw [hpl] at o1 o2 o4 o7
   rw [List.all_eq_true] at o4 o5 o6 o7 o8
   have hlt:∀i∈perm,i<ops.size:=fun i hi=>by simpa using o4 i hi
   have hget:∀q,q<ops.size→perm.getD q 0∈perm:=by
    intro q hq
    have:q<perm.length:=by omega
    rw [List.getD_eq_getElem?_getD,List.getElem?_eq_getElem this]
    exact List.getElem_mem this
   have hnd:=distinctN_nodup o3
   have inj:∀q k,q<ops.size→k<ops.size→perm.getD q 0=perm.getD k 0→q=k:=by
    intro q k hq hk he
    have hq':q<perm.length:=by omega
    have hk':k<perm.length:=by omega
    rw [List.getD_eq_getElem?_getD,List.getD_eq_getElem?_getD,List.getElem?_eq_getElem hq',List.getElem?_eq_getElem hk'] at he
    simp only [Option.getD_some] at he
    have hp:=List.pairwise_iff_getElem.1 hnd
    rcases Nat.lt_trichotomy q k with h | h | h
    ·exact absurd he (hp q k hq' hk' h)
    ·exact h
    ·exact absurd he.symm (hp k q hk' hq' h)
   have mem:∀{q d},l[q]?=some d→(d,q)∈l.zipIdx:=fun h=>List.mem_zipIdx_iff_getElem?.2 h
   refine ⟨hmix,hbk,⟨o1,fun q hq=>hlt _ (hget q hq),inj,?_,?_,?_,?_,?_,Nat.sub_le _ _,?_,?_⟩,?_⟩
   ·intro j hj
    have hmem:j∈perm:=by
     apply Classical.byContradiction
     intro hno
     have hsub:perm ⊆ (List.range ops.size).erase j:=by
      intro x hx
      have hxj:x≠j:=by rintro rfl;exact hno hx
      rw [List.mem_erase_of_ne hxj]
      exact List.mem_range.2 (hlt x hx)
     have:=nodup_le hnd hsub
     rw [List.length_erase_of_mem (List.mem_range.2 hj),List.length_range] at this
     omega
    obtain ⟨q,hq,e⟩:=List.mem_iff_getElem.1 hmem
    exact ⟨q,by omega,by rw [List.getD_eq_getElem?_getD,List.getElem?_eq_getElem hq,Option.getD_some,e]⟩
   ·intro q o d ho hd
    have hqn:q<ops.size:=by rw [←o1];exact (List.getElem?_eq_some_iff.1 hd).1
    have hq':q<perm.length:=by omega
    have hlg:=laidF_get (l:=zipD ios (calcPre (ops.toList.map edgesOf) [])) (fl:=floatsOf (zipD ios (calcPre (ops.toList.map edgesOf) []))) (p0:=perm) (perm:=perm) (fun i hi=>by rw [hz];exact hlt i hi) q
    have hl':=hl
    unfold laidF at hl'
    rw [hl',hd] at hlg
    rw [List.getElem?_eq_getElem hq'] at hlg
    simp only [Option.bind_some] at hlg
    have hpq:perm.getD q 0=perm[q]:=by rw [List.getD_eq_getElem?_getD,List.getElem?_eq_getElem hq'];rfl
    rw [hpq] at ho
    cases hzi:(zipD ios (calcPre (ops.toList.map edgesOf) []))[perm[q]]? with
    | none=>rw [hzi] at hlg;cases hlg
    | some dz=>
     rw [hzi] at hlg
     simp only [Option.map_some,Option.some.injEq] at hlg
     have hx:=(z2 _ _ hzi).1
     have hco:=g2 _ o dz.op (by simpa using ho) hx
     obtain ⟨c1,c2,c3,c4,c5⟩:=compOper_inv hco
     have nofl:∀a,dz.op.op≠ .e (.fl a):=by
      intro a e
      rw [e] at c3
      exact compOp_nfl c3
     refine ⟨dz.op,hco,?_⟩
     have plain:d.op=dz.op→dz.op.dst=d.op.dst∧dz.op.guard=d.op.guard∧tmpsOf dz.op.op.opds=tmpsOf d.op.op.opds∧((isFl d=false∧dz.op.op=d.op.op)∨∃a,dz.op.op=.e a.toE∧d.op.op=.e (.fl a)∧d.op.guard=none):=by
      intro e
      refine ⟨by rw [e],by rw [e],by rw [e],.inl ⟨?_,by rw [e]⟩⟩
      cases hf:isFl d with
      | false=>rfl
      | true=>
       obtain ⟨a,ha⟩:=isFl_iff.1 hf
       rw [e] at ha
       exact absurd ha (nofl a)
     by_cases hfl:(floatsOf (zipD ios (calcPre (ops.toList.map edgesOf) []))).contains perm[q]=true
     ·rw [if_pos hfl] at hlg
      have hdop:d.op=flagF dz.op:=by rw [hlg]
      unfold flagF at hdop
      split at hdop
      ·rename_i eo he hg
       split at hdop
       ·rename_i a ha
        refine ⟨by rw [hdop],by rw [hdop,hg],?_,.inr ⟨a,by rw [he,toA_toE ha],by rw [hdop],by rw [hdop]⟩⟩
        rw [hdop,he,←toA_toE ha]
        cases a <;> rfl
       ·exact plain hdop
      ·exact plain hdop
     ·rw [if_neg hfl] at hlg
      exact plain (by rw [hlg])
   ·intro q d hd k hk
    have h1:=o7 (d,q) (mem hd)
    rw [List.all_eq_true] at h1
    have:=h1 k (List.mem_range.2 hk)
    simpa using this
   ·intro j e he
    by_cases hj:j<ops.size
    ·have hg:ops.toList[j]?=some ops[j]:=by simp [hj]
     have:(ops.toList.map edgesOf).getD j []=edgesOf ops[j]:=by simp [List.getD,hj]
     rw [this] at he
     have:=backOk_get hbk j ops[j] hg e he
     omega
    ·have:(ops.toList.map edgesOf).getD j []=[]:=by simp [List.getD,Nat.le_of_not_lt hj]
     rw [this] at he
     simp at he
   ·intro i j oi oj hi hj
    have h1:=o5 (oj,j) (mem hj)
    rw [List.all_eq_true] at h1
    exact h1 (oi,i) (mem hi)
   ·intro q d hd hq hE
    have h1:=o6 (d,q) (mem hd)
    simp only at h1
    rw [if_pos hq,hE] at h1
    simpa using h1
   ·intro q d hd hq
    have h1:=o6 (d,q) (mem hd)
    simp only at h1
    rw [if_neg (by omega)] at h1
    simpa using h1
   ·intro q d hd hf
    have h1:=o8 (d,q) (mem hd)
    simp only [hf,Bool.not_true,Bool.false_or,Option.isNone_iff_eq_none] at h1
    exact h1
  ·cases hc
 ·cases hc

theorem idopsF_sound {out:Bool} {id:Nat} {ops:Array Oper} {l:List DOper} {perm:List Nat} {K:(Nat→Value)→Heap→Prop} {f:Nat→Value} {h:Heap} (hc:compF P N ops=some (l,perm)) (hi:idops P l 0 [] [] K f h):
  ∃f' h',Run P N out (.region id ops true) f h .normal f' h'∧K f' h':=by
 obtain ⟨hmix,hbk,L,hgn⟩:=compF_laid hc
 obtain ⟨F,H,V,f1,f2,f3,T,_,_⟩:=idops_trace hi
 simp only [Nat.zero_add] at f3
 refine ⟨F l.length,H l.length,?_,f3⟩
 intro S hS B ρ a w R
 refine wpIn_region_draw ?_
 intro t
 have hsched:Region.schedule (P.follows .mixedOrders) ops t=Region.linearise .any ops t:=by
  unfold Region.schedule
  rw [hmix]
  simp
 rw [hsched]
 have hval:=linearise_valid hbk t
 have hnil:∀(l:List DOper) (i:Nat) (f:Nat→Value),fslots V [] l i f=f:=by
  intro l
  induction l with
  | nil=>intro i f;rfl
  | cons a l ih=>intro i f;simp [fslots,ih]
 obtain ⟨os,hos⟩:=head_grow L hgn T (k:=0) (headF l) (by omega)
 rw [Nat.zero_add] at hos
 have R0:Rel P N B ρ f h a { w with drawn:=w.drawn+1 }:=R.mono (Tr.drew R.heap _) (R.heap.drew _)
 have hH0:H 0=h:=f2
 have TG:Tr ρ (H 0) w ρ (H (headF l)) { w with drawn:=w.drawn+1 }:=by
  rw [hos,hH0]
  exact (Tr.drew R.heap _).trans (Tr.garbage R0.heap os)
 have R1:Rel P N B ρ (fslots V [] l 0 (F 0)) (H (headF l)) a { w with drawn:=w.drawn+1 }:=by
  rw [hnil,f1,hos,hH0]
  exact R0.mono (Tr.garbage R0.heap os) (R0.heap.garbage os)
 refine dsimF L hgn T hval (fun j e hj=>by simp at hj) (fun i hi=>by simp at hi) [] (fun q=>by simp) (headF l) (Nat.le_refl _) L.head (fun e oe he _ hf=>?_) S B ρ a _ R1 (Nat.le_refl _) ?_ TG _ ?_
 ·constructor
  ·intro h;simp at h
  ·intro hlt
   -- an effect at the head is a float
   rename_i hE
   rw [L.low e oe he hlt hE] at hf
   cases hf
 ·intro q d hq hf _
  obtain ⟨a',ha'⟩:=isFl_iff.1 hf
  obtain ⟨_,oo,g1,g2,g3,_,g5,_⟩:=float_fact T hq ha' (hgn q d hq hf)
  have hqm:q<headF l:=by
   apply Classical.byContradiction
   intro h'
   rw [L.high q d hq (by omega)] at hf
   cases hf
  constructor
  ·obtain ⟨os',hos'⟩:=head_grow L hgn T (k:=0) q (by omega)
   rw [Nat.zero_add,hH0] at hos'
   cases hr:ρ (H q).length with
   | none=>rfl
   | some r=>
    have:=R.heap.lt hr
    rw [hos'] at this
    simp at this
    omega
  ·obtain ⟨os',hos'⟩:=head_grow L hgn T (k:=q+1) (headF l-(q+1)) (by omega)
   rw [show q+1+(headF l-(q+1))=headF l by omega] at hos'
   rw [hos']
   have hid:=allocOf_id g1 (H q).length
   rw [←g2] at hid
   unfold iObj
   rw [hid]
   simp only [Option.bind_some]
   rw [List.getElem?_append_left (by rw [g3];simp)]
 ·intro ρ' a' w' R' T'
  refine ⟨rfl,ρ',R',?_⟩
  rw [hH0] at T'
  exact T'

theorem idopsDF_sound {out:Bool} {id:Nat} {ops:Array Oper} {l:List DOper} {K:(Nat→Value)→Heap→Prop} {f:Nat→Value} {h:Heap} (hc:compDF P N ops=some l) (hi:idops P l 0 [] [] K f h):
  ∃f' h',Run P N out (.region id ops true) f h .normal f' h'∧K f' h':=by
 unfold compDF at hc
 split at hc
 ·rename_i l' hl
  simp at hc;subst hc
  exact idops_sound hl hi
 ·rw [Option.map_eq_some_iff] at hc
  obtain ⟨⟨l',perm⟩,hl,rfl⟩:=hc
  exact idopsF_sound hl hi

end
end Go.Sim


namespace Go.Sim

section
variable {P : Program} {N : Nat}

theorem ofl_append (f:Nat→Value) (ks ls:List Nat) (xs:List Value) (h:xs=ls.map f):weaker (ofl (ks++ls) (ks.map f++xs)) f:=by
 subst h
 rw [←List.map_append]
 exact ofl_weaker f (ks++ls)

theorem iwp_sound {out:Bool}:∀{c:Code} {hs hs':Hints} {ic:ICode},compCode P N c hs=some (ic,hs')→(out=true∨noRange c=true)→∀{K:Exit→(Nat→Value)→Heap→Prop} {f:Nat→Value} {h:Heap},iwp P ic K f h→
  ∃e f' h',Run P N out c f h e f' h'∧K e f' h':=by
 intro c
 induction c with
 | skip=>
  intro hs hs' ic hc ho K f h hi
  simp [compCode] at hc
  obtain ⟨rfl,_⟩:=hc
  exact ⟨.normal,f,h,fun S hS B ρ a w R=>wpIn_skip ⟨rfl,ρ,R,Tr.refl R.heap⟩,hi⟩
 | region id ops draw=>
  intro hs hs' ic hc ho K f h hi
  cases draw with
  | true=>
   simp only [compCode] at hc
   split at hc
   ·rename_i l hl
    split at hc
    ·rename_i hlv
     simp at hc
     obtain ⟨rfl,_⟩:=hc
     have hi':=gdops_idops (dleaves_of hlv) hi
     rw [dflatG_groupsOf] at hi'
     obtain ⟨f',h',r1,r2⟩:=idopsDF_sound (id:=id) hl hi'
     exact ⟨.normal,f',h',r1,r2⟩
    ·cases hc
   ·cases hc
  | false=>
   simp only [compCode] at hc
   split at hc
   ·rename_i l hl
    split at hc
    ·rename_i hlv
     simp only [Option.some.injEq] at hc
     have he:ic=(rcode (groupsOf l) hs).1:=by rw [hc]
     subst he
     obtain ⟨f',h',r1,r2⟩:=rcode_sound (i:=0) (os:=ops.toList) (ops:=ops) (fun k o hk=>by simpa using hk) (by rw [flatG_groupsOf];exact hl) (leaves_of hlv) hi
     refine ⟨.normal,f',h',Run.region ?_,r2⟩
     rw [List.range_eq_range']
     simpa using r1
    ·cases hc
   ·simp at hc
    obtain ⟨rfl,_⟩:=hc
    exact (show False from hi).elim
 | seq x y ihx ihy=>
  intro hs hs' ic hc ho K f h hi
  have hox:out=true∨noRange x=true:=ho.imp id fun h=>by simp only [noRange,Bool.and_eq_true] at h;exact h.1
  have hoy:out=true∨noRange y=true:=ho.imp id fun h=>by simp only [noRange,Bool.and_eq_true] at h;exact h.2
  have both:∀{a b:ICode} {h0 hs1 hs2:Hints} {ls:List Nat},compCode P N x hs=some (a,h0)→compCode P N y hs1=some (b,hs2)→iwp P (.seq a (cutO ls b)) K f h→∃e f' h',Run P N out (.seq x y) f h e f' h'∧K e f' h':=by
   intro a b h0 hs1 hs2 ls ha hb hi
   obtain ⟨e,f₁,h₁,r1,r2⟩:=ihx ha hox hi
   by_cases he:e=.normal
   ·subst he
    obtain ⟨f₂,hw,r3⟩:=cutO_iwp r2
    obtain ⟨e',f₃,h₃,s1,s2⟩:=ihy hb hoy r3
    exact ⟨e',f₃,h₃,r1.seq (s1.weaken hw),s2⟩
   ·refine ⟨e,f₁,h₁,r1.seq_leave he,?_⟩
    cases e <;> first | exact absurd rfl he | exact r2
  simp only [compCode] at hc
  split at hc
  ·rename_i a h0 hs1 ha
   split at hc
   ·rename_i b hs2 hb
    simp at hc
    obtain ⟨rfl,_⟩:=hc
    exact both ha hb hi
   ·cases hc
  ·rename_i a ha
   split at hc
   ·rename_i b hs2 hb
    simp at hc
    obtain ⟨rfl,_⟩:=hc
    exact both (ls:=[]) ha hb hi
   ·cases hc
  ·cases hc
 | cond c x y ihx ihy=>
  intro hs hs' ic hc ho K f h hi
  have hox:out=true∨noRange x=true:=ho.imp id fun h=>by simp only [noRange,Bool.and_eq_true] at h;exact h.1
  have hoy:out=true∨noRange y=true:=ho.imp id fun h=>by simp only [noRange,Bool.and_eq_true] at h;exact h.2
  simp only [compCode] at hc
  split at hc
  ·rename_i hok
   split at hc
   ·rename_i a hs1 ha
    split at hc
    ·rename_i b hs2 hb
     simp at hc
     obtain ⟨rfl,_⟩:=hc
     rw [iwp_cond] at hi
     simp only [condK] at hi
     split at hi
     ·rename_i t ht
      cases t
      ·simp at hi
       obtain ⟨e,f₁,h₁,r1,r2⟩:=ihy hb hoy hi
       exact ⟨e,f₁,h₁,Run.cond hok ht (by simpa using r1),r2⟩
      ·simp at hi
       obtain ⟨e,f₁,h₁,r1,r2⟩:=ihx ha hox hi
       exact ⟨e,f₁,h₁,Run.cond hok ht (by simpa using r1),r2⟩
     ·exact hi.elim
    ·cases hc
   ·cases hc
  ·cases hc
 | block id c ih=>
  intro hs hs' ic hc ho K f h hi
  simp only [compCode] at hc
  split at hc
  ·rename_i a hs1 ha
   simp at hc
   obtain ⟨rfl,_⟩:=hc
   obtain ⟨e,f₁,h₁,r1,r2⟩:=ih ha (ho.imp (fun h=>h) fun h=>h) hi
   refine ⟨_,f₁,h₁,r1.block,?_⟩
   cases e with
   | exit i=>
    simp only [inBlockK] at r2⊢
    split <;> rename_i h
    ·rw [if_pos h] at r2;exact r2
    ·rw [if_neg h] at r2;exact r2
   | _=>exact r2
  ·cases hc
 | loop c ih=>
  intro hs hs' ic hc ho K f h hi
  simp only [compCode] at hc
  split at hc
  ·rename_i ks ls hs1
   split at hc
   ·rename_i a hs2 ha
    simp at hc
    obtain ⟨rfl,_⟩:=hc
    obtain ⟨J,μ,h0,hround⟩:=hi
    have key:∀(n:Nat) (xs:List Value) (hh:Heap),μ xs hh=n→J xs hh→∃e f' h',LRun P N out c (ofl (ks++ls) (ks.map f++xs)) hh e f' h'∧K e f' h':=by
     intro n
     induction n using Nat.strongRecOn with
     | _ n ihn=>
      intro xs hh hn hJ
      obtain ⟨e,f₁,h₁,r1,r2⟩:=ih ha (ho.imp (fun h=>h) fun h=>h) (hround xs hh hJ)
      by_cases he:e=.normal
      ·subst he
       obtain ⟨hk,hJ1,hlt⟩:=r2
       obtain ⟨e',f',h',s1,s2⟩:=ihn (μ (ls.map f₁) h₁) (by omega) (ls.map f₁) h₁ rfl hJ1
       refine ⟨e',f',h',LRun.next r1 (s1.weaken ?_),s2⟩
       rw [←hk]
       exact ofl_append f₁ ks ls _ rfl
      ·refine ⟨e,f₁,h₁,LRun.leave he r1,?_⟩
       cases e <;> first | exact absurd rfl he | exact r2
    obtain ⟨e,f',h',s1,s2⟩:=key _ (ls.map f) h rfl h0
    exact ⟨e,f',h',(s1.weaken (ofl_append f ks ls _ rfl)).run,s2⟩
   ·cases hc
  ·cases hc
 | exit id=>
  intro hs hs' ic hc ho K f h hi
  simp [compCode] at hc
  obtain ⟨rfl,_⟩:=hc
  exact ⟨.exit id,f,h,fun S hS B ρ a w R=>wpIn_exit ⟨rfl,ρ,R,Tr.refl R.heap⟩,hi⟩
 | ret=>
  intro hs hs' ic hc ho K f h hi
  simp [compCode] at hc
  obtain ⟨rfl,_⟩:=hc
  exact ⟨.ret,f,h,fun S hS B ρ a w R=>wpIn_ret ⟨rfl,ρ,R,Tr.refl R.heap⟩,hi⟩
 | rangeFunc g ps asg body=>
  intro hs hs' ic hc ho K f h hi
  have ho:out=true:=ho.resolve_right (by simp [noRange])
  subst ho
  simp only [compCode] at hc
  split at hc
  ·rename_i ls hs1
   split at hc
   ·rename_i hk
    simp at hc
    obtain ⟨rfl,_⟩:=hc
    simp only [Bool.and_eq_true] at hk
    obtain ⟨h',r1,r2⟩:=range_sound hk.1 hi
    exact ⟨.normal,f,h',r1,r2⟩
   ·cases hc
  ·cases hc
 | _=>intro hs hs' ic hc;simp [compCode] at hc

end
end Go.Sim


namespace Go.Sim

section
variable {P : Program} {ρ : RMap} {h : Heap} {w : World}

def pfr:List Tmp→List Value→(Nat→Value)→Nat→Value
 | p::ps,v::vs,f=>pfr ps vs (upd f p v)
 | _,_,f=>f

theorem pfr_rel {N:Nat}:∀{ps:List Tmp} {args args':List Value} {f:Nat→Value} {tmps:Array Value},VsRel ρ args args'→(∀p∈ps,p<N)→tmps.size=N→(∀t,VRel ρ (f t) (tmps.getD t Go.undef))→
  ((ps.zip args').foldl (fun (t:Array Value) (p,v)=>t.setIfInBounds p v) tmps).size=N∧
   ∀t,VRel ρ (pfr ps args f t) (((ps.zip args').foldl (fun (t:Array Value) (p,v)=>t.setIfInBounds p v) tmps).getD t Go.undef)
 | [],args,args',f,tmps,_,_,hs,hf=>⟨hs,hf⟩
 | p::ps,_,_,f,tmps,.nil,_,hs,hf=>⟨hs,hf⟩
 | p::ps,_,_,f,tmps,.cons (x:=x) (y:=y) ha hr,hp,hs,hf=>by
  simp only [List.zip_cons_cons,List.foldl_cons,pfr]
  refine pfr_rel hr (fun q hq=>hp q (by simp [hq])) (by simpa using hs) ?_
  intro t
  simp only [upd_eq]
  by_cases ht:t=p
  ·subst ht
   have:t<tmps.size:=by rw [hs];exact hp t (by simp)
   simp [Array.getD,this]
   exact ha
  ·rw [if_neg ht]
   have e:(tmps.setIfInBounds p y).getD t Go.undef=tmps.getD t Go.undef:=by
    simp only [Array.getD_eq_getD_getElem?,Array.getElem?_setIfInBounds]
    rw [if_neg (by omega)]
   rw [e]
   exact hf t

theorem marks.put {B:Nat} {l:Nat} {o:Obj}:∀{ds:List Deferred},(∀d∈ds,d≠mark l)→marks B ds w→marks B ds (w.putObj l o)
 | [],_,h=>by simpa [marks] using h
 | d::ds,hne,⟨⟨D,h1,h2,h3,h4⟩,h5⟩=>by
  refine ⟨⟨D,h1,h2,?_,h4⟩,marks.put (fun d hd=>hne d (by simp [hd])) h5⟩
  rw [putObj_get]
  ·exact h3
  ·rintro rfl
   exact hne d (by simp) h1

theorem marks.ne {B l:Nat} {rec:Loop} (hl:w.heap[l]?=some (.loop rec)):∀{ds:List Deferred},marks B ds w→∀d∈ds,d≠mark l
 | [],_,d,hd=>by simp at hd
 | d::ds,⟨⟨D,h1,h2,h3,h4⟩,h5⟩,d',hd=>by
  rcases List.mem_cons.1 hd with rfl | hd
  ·rintro e
   rw [h1] at e
   obtain rfl:=mark_inj e
   rw [hl] at h3
   cases h3
  ·exact marks.ne hl h5 d' hd

theorem noLive_step {ρ':RMap} {h':Heap} {w':World} (H':HRel P ρ' h' w') (T:Tr ρ h w ρ' h' w') {l:Nat} {rec:Loop} (hlt:l<w.heap.size) (hl:w'.heap[l]?=some (.loop rec))
  (no:∀j s,ρ j=some s→s.blk=l→¬isMut h j):∀j s,ρ' j=some s→s.blk=l→¬isLive h' j:=by
 intro j s hj hs hv
 obtain ⟨c,ls,vs,hc⟩:=H'.isLoop hl hj hs hv
 cases hr:ρ j with
 | some s'=>
  have:=T.ext j s' hr
  rw [hj] at this
  cases this
  exact no j s hr hs (T.kinds j (T.dom j s hr) (.inr (.inr (.inl ⟨_,_,_,hc⟩))))
 | none=>
  obtain ⟨_,q⟩:=T.fresh j s hj hr
  rcases q with q | ⟨j',s',q1,q2,q3⟩
  ·omega
  ·exact no j' s' q1 (q2.trans hs) q3

theorem HRel.revive (H:HRel P ρ h w) {i:Nat} {r:RI} {o:IObj} {x:Obj} (hi:ρ i=some r) (no:∀j s,ρ j=some s→s.blk=r.blk→¬isLive h j) (ho:objRel ρ (w.putObj r.blk x) r o):
  HRel P ρ (h.set i o) (w.putObj r.blk x):=by
 have hlt:=H.lt hi
 have ml:∀j,j≠i→isMut (h.set i o) j→isMut h j:=by
  intro j e hm
  unfold isMut at hm⊢
  rw [List.getElem?_set_ne (Ne.symm e)] at hm
  exact hm
 have ll:∀j,j≠i→isLive (h.set i o) j→isLive h j:=by
  intro j e hm
  unfold isLive at hm⊢
  rw [List.getElem?_set_ne (Ne.symm e)] at hm
  exact hm
 refine ⟨?_,?_,H.esz⟩
 ·intro j s hj
  by_cases e:j=i
  ·subst e
   rw [hi] at hj
   cases hj
   exact ⟨o,by rw [List.getElem?_set_self hlt],ho⟩
  ·obtain ⟨o',ho',hr⟩:=H.obj j s hj
   refine ⟨o',by rw [List.getElem?_set_ne (Ne.symm e)];exact ho',?_⟩
   by_cases hd:o'=.dead
   ·subst hd;trivial
   ·refine hr.mono (.refl _) (putObj_get ?_)
    intro e'
    exact no j s hj e' ⟨o',ho',hd⟩
 ·intro a b s t ha hb hst hm hl
  by_cases ea:a=i <;> by_cases eb:b=i
  ·omega
  ·subst ea
   rw [hi] at ha;cases ha
   exact absurd (ll b eb hl) (no b t hb hst.symm)
  ·subst eb
   rw [hi] at hb;cases hb
   exact absurd (ml a ea hm).live (no a s ha hst)
  ·exact H.inj a b s t ha hb hst (ml a ea hm) (ll b eb hl)

theorem Tr.revive {ρ':RMap} {h':Heap} {w':World} {i:Nat} (hm:isMut h i) (T:Tr ρ (h.set i .dead) w ρ' h' w') (o:IObj):Tr ρ h w ρ' (h'.set i o) w':=by
 have ml:∀j,isMut (h.set i .dead) j→isMut h j:=by
  intro j hj
  by_cases e:j=i
  ·subst e;exact hm
  ·unfold isMut at hj⊢
   rw [List.getElem?_set_ne (Ne.symm e)] at hj
   exact hj
 exact {
  ext:=T.ext
  len:=by simpa using T.len
  dom:=fun j s hj=>by simpa using T.dom j s hj
  kinds:=by
   intro j hj hj'
   by_cases e:j=i
   ·subst e;exact hm
   ·refine ml j (T.kinds j (by simpa using hj) ?_)
    unfold isMut at hj'⊢
    rw [List.getElem?_set_ne (Ne.symm e)] at hj'
    exact hj'
  fresh:=by
   intro j s h1 h2
   obtain ⟨q1,q2⟩:=T.fresh j s h1 h2
   refine ⟨by simpa using q1,q2.imp (fun h=>h) ?_⟩
   rintro ⟨j',s',a,b,c⟩
   exact ⟨j',s',a,b,ml j' c⟩
  wsize:=T.wsize
  wblk:=fun k hk hno=>T.wblk k hk fun j s hj hs hmm=>hno j s hj hs (ml j hmm)
  os:=T.os
  tape:=T.tape
  output:=T.output }

theorem Tr.putMut {i:Nat} {r:RI} (hd:∀j s,ρ j=some s→j<h.length) (hi:ρ i=some r) {h₁:Heap} (hl:h₁.length=h.length) (hm:isMut h₁ i) (x:Obj):Tr ρ h₁ w ρ h₁ (w.putObj r.blk x) where
 ext:=.refl _
 len:=Nat.le_refl _
 dom:=fun j s hj=>by rw [hl];exact hd j s hj
 kinds:=fun _ _ h=>h
 fresh:=fun j s h1 h2=>by rw [h1] at h2;cases h2
 wsize:=by rw [World.putObj_size];exact Nat.le_refl _
 wblk:=fun k hk hno=>putObj_get fun e=>hno i r hi e.symm hm
 os:=rfl
 tape:=rfl
 output:=rfl

theorem set_id {h:Heap} {i:Nat} {o:IObj} (hi:h[i]?=some o):h.set i o=h:=by
 apply List.ext_getElem?
 intro j
 by_cases e:j=i
 ·subst e
  rw [List.getElem?_set_self (List.getElem?_eq_some_iff.1 hi).1,hi]
 ·rw [List.getElem?_set_ne (Ne.symm e)]

theorem yield_intro {i:Nat} {c:LoopC} {ls:List Nat} {vs args:List Value} {ia ib:ICode} {hs1 hs2 hs1' hs2':Hints} {K:Value→Heap→Prop} (hi:h[i]?=some (.loop c ls vs)) (hn:args.length=c.ps.size)
  (hps:c.ps.all (·<c.N)=true) (ha:compCode P c.N c.asg hs1=some (ia,hs1')) (hb:compCode P c.N c.body hs2=some (ib,hs2')) (na:noRange c.asg=true) (nb:noRange c.body=true)
  (hw:iwp P ia (fun e f1 h1=>e=.normal∧h1[i]?=some .dead∧iwp P ib (fun e _ h2=>e=.normal∧h2[i]?=some .dead∧K (.bool true) (h2.set i (.loop c ls vs))) f1 h1) (pfr c.ps.toList args (ofl ls vs)) (h.set i .dead)):
  iyield P i args h K:=by
 obtain ⟨e1,f1,h1,r1,rfl,d1,hw2⟩:=iwp_sound (out:=false) ha (.inr na) hw
 obtain ⟨e2,f2,h2,r2,rfl,d2,hk⟩:=iwp_sound (out:=false) hb (.inr nb) hw2
 refine ⟨.bool true,h2.set i (.loop c ls vs),?_,hk⟩
 intro ρ r args' w hri hargs H
 have hmi:isMut h i:=.inr (.inr (.inl ⟨_,_,_,hi⟩))
 obtain ⟨o,ho,hor⟩:=H.obj i r hri
 rw [hi] at ho
 cases ho
 obtain ⟨rec,g1,g2,g3,g4,g5,g6,g7,g8⟩:=hor
 have hlt:=(Array.getElem?_eq_some_iff.1 g1).1
 have hsz:args'.size=rec.params.size:=by
  have:=hargs.length
  rw [g6,←hn,this]
  simp
 refine ⟨rec.fn,_,rec.assign,rec.body,run_yield g1 hsz,?_⟩
 rw [g4,g5]
 have hfold:(rec.params.zip args').foldl (fun (t:Array Value) (p,v)=>t.setIfInBounds p v) rec.tmps=(c.ps.toList.zip args'.toList).foldl (fun (t:Array Value) (p,v)=>t.setIfInBounds p v) rec.tmps:=by
  rw [g6,←Array.toList_zip,Array.foldl_toList]
 obtain ⟨p1,p2⟩:=pfr_rel (N:=c.N) (ps:=c.ps.toList) (f:=ofl ls vs) (tmps:=rec.tmps) hargs (by
  intro p hp
  rw [Array.all_eq_true'] at hps
  exact of_decide_eq_true (hps p (by simpa using hp))) g7 g8
 have R0:Rel P c.N w.heap.size ρ (pfr c.ps.toList args (ofl ls vs)) (h.set i .dead) { tmps:=(rec.params.zip args').foldl (fun (t:Array Value) (p,v)=>t.setIfInBounds p v) rec.tmps,defers:=[] } w:=
  ⟨by rw [hfold];exact p1,Nat.le_refl _,fun t=>by rw [hfold];exact p2 t,H.kill i⟩
 refine roundIn_of_wpIn (F:=Fence.wide) trivial ?_
 refine wpIn_mono (r1 (some r.blk) (fun h=>by cases h) _ ρ _ w R0) ?_
 rintro e a1 w1 ⟨rfl,ρ1,R1,T1⟩
 have u1:∀j s,ρ j=some s→s.blk=r.blk→¬isMut (h.set i .dead) j:=by
  intro j s hj hs hm
  by_cases e:j=i
  ·subst e
   unfold isMut at hm
   rw [List.getElem?_set_self (H.lt hri)] at hm
   rcases hm with ⟨_,_,h1⟩ | ⟨_,h1⟩ | ⟨_,_,_,h1⟩ | ⟨_,_,h1⟩ | ⟨_,_,_,h1⟩ | ⟨_,_,_,_,h1⟩ <;> cases h1
  ·refine e (H.inj j i s r hj hri hs ?_ hmi.live)
   unfold isMut at hm⊢
   rw [List.getElem?_set_ne (Ne.symm e)] at hm
   exact hm
 have l1:w1.heap[r.blk]?=some (.loop rec):=(T1.wblk _ hlt u1).trans g1
 have hlt1:=(Array.getElem?_eq_some_iff.1 l1).1
 refine ⟨_,run_beginRound l1 g2,?_⟩
 have no1:=noLive_step R1.heap T1 hlt l1 u1
 have l2:(w1.putObj r.blk (.loop { rec with state:=.busy })).heap[r.blk]?=some (.loop { rec with state:=.busy }):=World.putObj_heap_same hlt1
 have R2:Rel P c.N w.heap.size ρ1 f1 h1 a1 (w1.putObj r.blk (.loop { rec with state:=.busy })):=
  ⟨R1.size,marks.put (marks.ne l1 R1.defers) R1.defers,R1.tmp,R1.heap.put no1 _⟩
 refine wpIn_mono (r2 (some r.blk) (fun h=>by cases h) _ ρ1 a1 _ R2) ?_
 rintro e a3 w3 ⟨rfl,ρ3,R3,T3⟩
 have l3:w3.heap[r.blk]?=some (.loop { rec with state:=.busy }):=(T3.wblk _ (by simpa using hlt1) fun j s hj hs hm=>no1 j s hj hs hm.live).trans l2
 have no3:=noLive_step R3.heap T3 (by simpa using hlt1) l3 fun j s hj hs hm=>no1 j s hj hs hm.live
 have hrec:({ ({ rec with state:=.busy }:Loop) with state:=if (none:Option Code).isNone then .ready else .done,pending:=none }:Loop)=rec:=by
  cases rec
  simp only at g2 g3
  subst g2
  subst g3
  rfl
 have he:=run_endRound (P:=P) none l3
 rw [hrec] at he
 have hρ1:ρ1 i=some r:=T1.ext _ _ hri
 have hρ3:ρ3 i=some r:=T3.ext _ _ hρ1
 have hlt3:=(Array.getElem?_eq_some_iff.1 l3).1
 refine ⟨_,_,he,.bool true,ρ3,rfl,.bool _,?_,?_⟩
 ·refine R3.heap.revive hρ3 no3 ⟨rec,World.putObj_heap_same hlt3,g2,g3,g4,g5,g6,g7,fun t=>(g8 t).mono (T1.ext.trans T3.ext)⟩
 ·have m1:isMut (h1.set i (.loop c ls vs)) i:=.inr (.inr (.inl ⟨c,ls,vs,List.getElem?_set_self (R1.heap.lt hρ1)⟩))
  have m3:isMut (h2.set i (.loop c ls vs)) i:=.inr (.inr (.inl ⟨c,ls,vs,List.getElem?_set_self (R3.heap.lt hρ3)⟩))
  have A:=T1.revive hmi (.loop c ls vs)
  have B:=Tr.putMut (w:=w1) (fun j s hj=>R1.heap.lt hj) hρ1 (h₁:=h1.set i (.loop c ls vs)) (by simp) m1 (.loop { rec with state:=.busy })
  have e1:(h1.set i (.loop c ls vs)).set i .dead=h1:=by rw [List.set_set,set_id d1]
  have C:Tr ρ1 (h1.set i (.loop c ls vs)) _ ρ3 (h2.set i (.loop c ls vs)) w3:=Tr.revive m1 (by rw [e1];exact T3) _
  have D:=Tr.putMut (w:=w3) (fun j s hj=>R3.heap.lt hj) hρ3 (h₁:=h2.set i (.loop c ls vs)) (by simp) m3 (.loop rec)
  exact ((A.trans B).trans C).trans D

end
end Go.Sim


namespace Go.Sim

inductive IRes where
 | tmp (t:Nat)
 | cell (agg:Bool) (n:Nat) (a:Nat)

def ires1 (r:IRes) (f:Nat→Value) (h:Heap):Option Value:=
 match r with
 | .tmp t=>some (f t)
 | .cell agg n a=>iLoad agg n h (f a)

def ires:List IRes→(Nat→Value)→Heap→Option (List Value)
 | [],_,_=>some []
 | r::rs,f,h=>match ires1 r f h,ires rs f h with
  | some v,some vs=>some (v::vs)
  | _,_=>none

def pack:List Value→Value
 | [v]=>v
 | vs=>.tuple vs.toArray

def retL:List IRes→(Nat→Value)→Heap→(List Value→Prop)→Prop
 | [],_,_,k=>k []
 | .tmp t::rs,f,h,k=>retL rs f h fun vs=>k (f t::vs)
 | .cell agg n a::rs,f,h,k=>oletP (iLoad agg n h (f a)) fun v=>retL rs f h fun vs=>k (v::vs)

def retK (rs:List IRes) (K:Value→Heap→Prop) (f:Nat→Value) (h:Heap):Prop:=retL rs f h fun vs=>K (pack vs) h

theorem retL_inv:∀{rs:List IRes} {f:Nat→Value} {h:Heap} {k:List Value→Prop},retL rs f h k→∃vs,ires rs f h=some vs∧k vs
 | [],f,h,k,hr=>⟨[],rfl,hr⟩
 | .tmp t::rs,f,h,k,hr=>by
  obtain ⟨vs,h1,h2⟩:=retL_inv (rs:=rs) hr
  exact ⟨f t::vs,by simp [ires,ires1,h1],h2⟩
 | .cell agg n a::rs,f,h,k,hr=>by
  simp only [retL,oletP] at hr
  split at hr
  ·rename_i v hv
   obtain ⟨vs,h1,h2⟩:=retL_inv (rs:=rs) hr
   exact ⟨v::vs,by simp [ires,ires1,h1,hv],h2⟩
  ·exact hr.elim

def bodyK (rs:List IRes) (K:Value→Heap→Prop):Exit→(Nat→Value)→Heap→Prop
 | .normal,f,h=>retK rs K f h
 | .ret,f,h=>retK rs K f h
 | _,_,_=>False

def frame0 (args:List Value):Nat→Value:=fun j=>args.getD j undef

def compRes1 (P:Program):ResultVar→Option IRes
 | .tmp t=>some (.tmp t)
 | .cell a t=>
  match P.underlying t with
  | some d=>if infoOk P t&&(isAggD d||P.cellsOf t==1) then some (.cell (isAggD d) (P.cellsOf t) a) else none
  | none=>none

def compRes (P:Program):List ResultVar→Option (List IRes)
 | []=>some []
 | r::rs=>match compRes1 P r,compRes P rs with
  | some x,some xs=>some (x::xs)
  | _,_=>none

def compFn (P:Program) (F:FuncId) (hs:Hints):Option (Nat×ICode×List IRes):=
 match P.funcs[F]? with
 | some fn=>match fn.body with
  | some c=>match compCode P fn.ntmps c hs,compRes P fn.results.toList with
   | some (ic,_),some rs=>some (fn.ntmps,ic,rs)
   | _,_=>none
  | none=>none
 | none=>none

def icOf:Option (Nat×ICode×List IRes)→ICode
 | some (_,c,_)=>c
 | none=>.skip
def ICode.l:ICode→ICode
 | .seq a _=>a
 | .cut _ c=>c
 | .cond _ a _=>a
 | .block _ c=>c
 | .loop _ _ c=>c
 | c=>c
def ICode.r:ICode→ICode
 | .seq _ b=>b
 | .cond _ _ b=>b
 | c=>c

section
variable {P : Program} {w : World} {ρ : RMap} {h : Heap}

def resSem (tmps:Array Value):ResultVar→Sem Value
 | .tmp t=>pure (tmps.getD t Go.undef)
 | .cell b t=>do loadVar t (←asAddr (tmps.getD b Go.undef))

theorem results_eq (fn:Func) (tmps:Array Value):results fn tmps=(do let vs ←fn.results.mapM (resSem tmps);pure (if h:vs.size=1 then vs[0] else .tuple vs)):=by
 have e:(fun r:ResultVar=>(match r with
   | .tmp t=>(pure (tmps.getD t Go.undef):Sem Value)
   | .cell a t=>do loadVar t (←asAddr (tmps.getD a Go.undef))))=resSem tmps:=by
  funext r
  cases r <;> rfl
 rw [←e]
 rfl

theorem run_res1 {N B:Nat} {f:Nat→Value} {a:Act} (R:Rel P N B ρ f h a w) {r:ResultVar} {x:IRes} (hc:compRes1 P r=some x) {v:Value} (hv:ires1 x f h=some v):
  ∃v',(resSem a.tmps r).run P w=.ok v' w∧VRel ρ v v':=by
 cases r with
 | tmp t=>
  simp [compRes1] at hc;subst hc
  simp [ires1] at hv;subst hv
  exact ⟨_,rfl,R.tmp t⟩
 | cell b t=>
  simp only [compRes1] at hc
  split at hc
  ·rename_i d ht
   split at hc
   ·rename_i hk
    simp at hc;subst hc
    simp only [Bool.and_eq_true] at hk
    simp only [ires1] at hv
    obtain ⟨v',q1,q2⟩:=run_iLoad R.heap ht hk.1 hv (R.tmp b)
    refine ⟨v',?_,q2⟩
    have hv':=hv
    unfold iLoad at hv'
    split at hv'
    ·rename_i i o hfb
     have:=R.tmp b
     rw [hfb] at this
     obtain ⟨r',_,e⟩:=this.ptr_inv
     simp only [resSem]
     rw [e] at q1⊢
     simpa [Instr.loadAt,Instr.sureAddr,asAddr] using q1
    ·cases hv'
   ·cases hc
  ·cases hc

theorem run_mapM_list {α β:Type} (g:α→Sem β) (w:World):∀{xs:List α} {ys:List β},(∀(k:Nat) (x:α),xs[k]?=some x→∃y,ys[k]?=some y∧(g x).run P w=.ok y w)→xs.length=ys.length→(xs.mapM g).run P w=.ok ys w
 | [],[],_,_=>rfl
 | x::xs,y::ys,h,hl=>by
  obtain ⟨y',h1,h2⟩:=h 0 x rfl
  simp at h1;subst h1
  have ih:=run_mapM_list g w (xs:=xs) (ys:=ys) (fun k a hk=>by simpa using h (k+1) a (by simpa using hk)) (by simpa using hl)
  simp only [List.mapM_cons,Sem.run_bind,h2,Result.andThen_ok,ih,Sem.run_pure]

theorem run_res {N B:Nat} {f:Nat→Value} {a:Act} (R:Rel P N B ρ f h a w):∀{l:List ResultVar} {rs:List IRes} {vs:List Value},compRes P l=some rs→ires rs f h=some vs→
  ∃vs':List Value,VsRel ρ vs vs'∧l.length=vs'.length∧∀(k:Nat) (r:ResultVar),l[k]?=some r→∃y,vs'[k]?=some y∧(resSem a.tmps r).run P w=.ok y w
 | [],rs,vs,hc,hv=>by
  simp [compRes] at hc;subst hc
  simp [ires] at hv;subst hv
  exact ⟨[],.nil,rfl,fun k r hk=>by simp at hk⟩
 | r::l,rs,vs,hc,hv=>by
  simp only [compRes] at hc
  split at hc
  ·rename_i x xs h1 h2
   simp at hc;subst hc
   simp only [ires] at hv
   split at hv
   ·rename_i v vs h3 h4
    simp at hv;subst hv
    obtain ⟨v',q1,q2⟩:=run_res1 R h1 h3
    obtain ⟨vs',s1,s2,s3⟩:=run_res R h2 h4
    refine ⟨v'::vs',.cons q2 s1,by simp [s2],?_⟩
    intro k r' hk
    cases k with
    | zero=>simp at hk;subst hk;exact ⟨v',rfl,q1⟩
    | succ k=>simpa using s3 k r' (by simpa using hk)
   ·cases hv
  ·cases hc

theorem run_results {N B:Nat} {f:Nat→Value} {a:Act} (R:Rel P N B ρ f h a w) {fn:Func} {rs:List IRes} {vs:List Value} (hc:compRes P fn.results.toList=some rs) (hv:ires rs f h=some vs):
  ∃v',(results fn a.tmps).run P w=.ok v' w∧VRel ρ (pack vs) v':=by
 obtain ⟨vs',h1,h2,h3⟩:=run_res R hc hv
 have hm:=run_mapM_list (P:=P) (resSem a.tmps) w h3 h2
 have hm':(fn.results.mapM (resSem a.tmps)).run P w=.ok vs'.toArray w:=by
  rw [Array.mapM_eq_mapM_toList]
  simp only [Sem.run_map,hm,Result.andThen_ok]
 refine ⟨if h:vs'.toArray.size=1 then vs'.toArray[0] else .tuple vs'.toArray,?_,?_⟩
 ·rw [results_eq]
  simp only [Sem.run_bind,hm',Result.andThen_ok,Sem.run_pure]
 ·cases h1 with
  | nil=>simpa [pack] using VRel.tupleL (ρ:=ρ) .nil
  | cons a1 a2=>
   cases a2 with
   | nil=>simpa [pack] using a1
   | cons b1 b2=>simpa [pack] using VRel.tupleL (.cons a1 (.cons b1 b2))

theorem frame0_rel {args:List Value} {args':Array Value} (hv:VsRel ρ args args'.toList) (N:Nat) (t:Nat):VRel ρ (frame0 args t) ((args'++Array.replicate (N-args'.size) Go.undef).getD t Go.undef):=by
 unfold frame0
 have hl:=hv.length
 by_cases ht:t<args.length
 ·obtain ⟨y,hy,hr⟩:=hv.get (k:=t) (x:=args[t]) (List.getElem?_eq_getElem ht)
  have hs:t<args'.size:=by simpa using (by omega:t<args'.toList.length)
  have e1:args.getD t undef=args[t]:=by simp [List.getD,ht]
  rw [e1,Array.getD_eq_getD_getElem?,Array.getElem?_append_left hs]
  simp only [Array.getElem?_toList] at hy
  rw [hy]
  exact hr
 ·have e1:args.getD t undef=undef:=by simp [List.getD,Nat.le_of_not_lt ht]
  have e2:(args'++Array.replicate (N-args'.size) Go.undef).getD t Go.undef=undef:=by
   have hs:¬t<args'.size:=by simp at hl;omega
   rw [Array.getD_eq_getD_getElem?,Array.getElem?_append_right (by omega)]
   by_cases h2:t-args'.size<N-args'.size
   ·simp [h2]
   ·simp [h2]
  rw [e1,e2]
  exact VRel.undef _

theorem Tr.lateW {ρ':RMap} {h':Heap} {w':World} (T:Tr ρ h w ρ' h' w') {l:Nat} (hl:w.heap.size≤l) (o:Obj):Tr ρ h w ρ' h' (w'.putObj l o) where
 ext:=T.ext
 len:=T.len
 dom:=T.dom
 kinds:=T.kinds
 fresh:=T.fresh
 wsize:=by rw [World.putObj_size];exact T.wsize
 wblk:=fun k hk hno=>by rw [putObj_get (by omega)];exact T.wblk k hk hno
 os:=T.os
 tape:=T.tape
 output:=T.output

theorem leaves_marks {ρ':RMap} {h':Heap} {fn:Func} {tmps:Array Value} {Q:Ending→World→Prop}:∀{ds:List Deferred} {w':World},marks w.heap.size ds w'→HRel P ρ' h' w'→Tr ρ h w ρ' h' w'→
  (∀w'',HRel P ρ' h' w''→Tr ρ h w ρ' h' w''→∃v,(results fn tmps).run P w''=.ok v w''∧Q (.returned v) w'')→LeavesInM Fence.wide 0 P fn tmps Q ds .returning w'
 | [],w',_,H,T,hq=>hq w' H T
 | d::ds,w',⟨⟨D,h1,h2,h3,h4⟩,h5⟩,H,T,hq=>by
  refine ⟨by simp,.inl ⟨D,_,by rw [h1];rfl,run_takeDeferred h3,?_⟩⟩
  exact leaves_marks (marks.put (fun d hd=>h4 d hd) h5) (H.put (fun j s hj hs=>H.notDef h3 hj hs) _) (T.lateW h2 _) hq

theorem icall_intro {F:FuncId} {N:Nat} {ic:ICode} {rs:List IRes} {hs:Hints} (hc:compFn P F hs=some (N,ic,rs)) {args:List Value} (ha:args.length≤N) {K:Value→Heap→Prop}
  (hi:iwp P ic (bodyK rs K) (frame0 args) h):icall P F args h K:=by
 unfold compFn at hc
 split at hc
 ·rename_i fn hf
  split at hc
  ·rename_i c hb
   split at hc
   ·rename_i ic' _ rs' h1 h2
    simp at hc
    obtain ⟨hN,rfl,rfl⟩:=hc
    obtain ⟨e,f',h',r1,r2⟩:=iwp_sound (out:=true) h1 (.inl rfl) hi
    have hret:(e=.normal∨e=.ret)∧retK rs' K f' h':=by
     cases e <;> first | exact ⟨.inl rfl,r2⟩ | exact ⟨.inr rfl,r2⟩ | exact r2.elim
    obtain ⟨he,hret⟩:=hret
    obtain ⟨vs,hvs,hret⟩:=retL_inv hret
    ·refine ⟨pack vs,h',?_,hret⟩
     intro ρ args' w hv H
     refine callsIn_wide.1 (callsIn_of_wp_marks (F:=Fence.wide) (n:=0) hf hb trivial ?_ rfl)
     have hsz:args'.size=args.length:=by have:=hv.length;simpa using this.symm
     have R:Rel P fn.ntmps w.heap.size ρ (frame0 args) h { tmps:=args'++Array.replicate (fn.ntmps-args'.size) Go.undef,defers:=[] } w:=⟨by simp;omega,Nat.le_refl _,frame0_rel hv fn.ntmps,H⟩
     refine wpIn_mono (r1 none (fun _=>rfl) _ ρ _ w R) ?_
     rintro e' a' w' ⟨rfl,ρ',R',T⟩
     have key:LeavesInM Fence.wide 0 P fn a'.tmps (fun e w'=>∃v' ρ',e=.returned v'∧VRel ρ' (pack vs) v'∧HRel P ρ' h' w'∧Tr ρ h w ρ' h' w') a'.defers .returning w':=by
      refine leaves_marks R'.defers R'.heap T ?_
      intro w'' H'' T''
      have R'':Rel P fn.ntmps 0 ρ' f' h' { a' with defers:=[] } w'':=⟨R'.size,Nat.zero_le _,R'.tmp,H''⟩
      obtain ⟨v',q1,q2⟩:=run_results R'' h2 hvs
      exact ⟨v',q1,v',ρ',rfl,q2,H'',T''⟩
     rcases he with rfl | rfl
     ·exact key
     ·exact key
   ·cases hc
  ·cases hc
 ·cases hc

theorem icall_below {F:FuncId} {args:List Value} {h:Heap} {v:Value} (hi:icall P F args h fun u _=>u=v) {ρ:RMap} {args':Array Value} {w:World} (hv:VsRel ρ args args'.toList) (H:HRel P ρ h w)
  (hro:∀i,¬isMut h i):Calls P F args' w fun e w'=>(∃v' ρ',e=.returned v'∧VRel ρ' v v')∧RowKit.Below w.heap.size w w':=by
 obtain ⟨u,h',hc,rfl⟩:=hi
 refine (hc ρ args' w hv H).mono ?_
 rintro e w' ⟨v',ρ',rfl,h1,_,T⟩
 exact ⟨⟨v',ρ',rfl,h1⟩,⟨T.os,T.tape,T.output,T.wsize,fun k hk=>T.wblk k hk fun j s _ _ hm=>hro j hm⟩⟩

end
end Go.Sim


namespace Go.Sim

abbrev VK:=Value→Heap→Prop
abbrev LQ:=List Value→Heap→Prop
abbrev gm (a n:Nat):GOper:=⟨some a,.p (.mv (.tmp n))⟩
abbrev gd (a n m:Nat):GDOper:=⟨some a,.p (.mv (.tmp n)),m⟩
abbrev ci (n:Int):Operand:=.const (.int .i64 n)

inductive OP (o:Option Value) (K:Value→Prop):Prop | mk:oletP o K→OP o K
inductive OH (o:Option (Value×Heap)) (K:Value→Heap→Prop):Prop | mk:oletH o K→OH o K
inductive IfP (c:Value) (a b:Prop):Prop | mk:condK c a b→IfP c a b
inductive GdP (v:Value) (b:Bool) (A B:Prop):Prop | mk:guardK v b A B→GdP v b A B
inductive CutP (Q:(Nat→Value)→Heap→Prop) (ls:List Nat) (vs:List Value) (h:Heap):Prop | mk:cutK Q ls vs h→CutP Q ls vs h
inductive LoopP (init:List Value) (h:Heap) (Q:(List Value→Heap→Prop)→List Value→Heap→Prop):Prop | mk:loopK init h Q→LoopP init h Q
inductive CallP (P:Program) (F:FuncId) (args:List Value) (h:Heap) (K:Value→Heap→Prop):Prop | mk:icall P F args h K→CallP P F args h K
inductive CallVP (P:Program) (x:Value) (args:List Value) (h:Heap) (K:Value→Heap→Prop):Prop | mk:callV P x args h K→CallVP P x args h K

inductive RangeP (P:Program) (g:Value) (ls:List Nat) (vs:List Value) (c:LoopC) (h:Heap) (K:Heap→Prop):Prop | mk:rangeK P g ls vs c h K→RangeP P g ls vs c h K

theorem RangeP_eq:RangeP=rangeK:=funext fun _=>funext fun _=>funext fun _=>funext fun _=>funext fun _=>funext fun _=>funext fun _=>propext ⟨fun ⟨h⟩=>h,.mk⟩
theorem OP_eq:OP=oletP:=funext fun _=>funext fun _=>propext ⟨fun ⟨h⟩=>h,.mk⟩
theorem OH_eq:OH=oletH:=funext fun _=>funext fun _=>propext ⟨fun ⟨h⟩=>h,.mk⟩
theorem IfP_eq:IfP=condK:=funext fun _=>funext fun _=>funext fun _=>propext ⟨fun ⟨h⟩=>h,.mk⟩
theorem GdP_eq:GdP=guardK:=funext fun _=>funext fun _=>funext fun _=>funext fun _=>propext ⟨fun ⟨h⟩=>h,.mk⟩
theorem CutP_eq:CutP=cutK:=funext fun _=>funext fun _=>funext fun _=>funext fun _=>propext ⟨fun ⟨h⟩=>h,.mk⟩
theorem LoopP_eq:LoopP=loopK:=funext fun _=>funext fun _=>funext fun _=>propext ⟨fun ⟨h⟩=>h,.mk⟩
theorem CallP_eq:CallP=icall:=funext fun _=>funext fun _=>funext fun _=>funext fun _=>funext fun _=>propext ⟨fun ⟨h⟩=>h,.mk⟩
theorem CallVP_eq:CallVP=callV:=funext fun _=>funext fun _=>funext fun _=>funext fun _=>funext fun _=>propext ⟨fun ⟨h⟩=>h,.mk⟩

theorem CutP_def (Q:(Nat→Value)→Heap→Prop) (ls:List Nat) (vs:List Value) (h:Heap):CutP Q ls vs h=Q (ofl ls vs) h:=by
 rw [CutP_eq]
 rfl

theorem cdt {Q:(Nat→Value)→Heap→Prop} {ls:List Nat} {vs:List Value} {h:Heap} {A:Prop} (e:Q (ofl ls vs) h=A):CutP Q ls vs h=A:=(CutP_def _ _ _ _).trans e

def pureP (o:POp) (g:Operand→Value) (k:Value→Prop):Prop:=
 match o with
 | .mv x=>k (g x)
 | .lenArr n=>k (.int .i64 n)
 | .fn f a b=>k (.func (.func f) (a.map g).toArray (b.map g).toArray)
 | o=>OP (ipure o g) k

theorem pureP_eq (o:POp) (g:Operand→Value) (k:Value→Prop):pureP o g k=oletP (ipure o g) k:=by
 unfold pureP
 split
 ·rfl
 ·rfl
 ·rfl
 ·rw [OP_eq]

def stepP (P:Program) (o:IOp) (f:Nat→Value) (h:Heap) (K:Value→Heap→Prop):Prop:=
 match o with
 | .p o=>pureP o (ev f) fun v=>K v h
 | .l o=>OP (iload o (ev f) h) fun v=>K v h
 | .e o=>OH (ieff o (ev f) h) K
 | .call g args=>CallP P g (args.map (ev f)) h K
 | .callv x args=>CallVP P (ev f x) (args.map (ev f)) h K

theorem stepP_eq (P:Program) (o:IOp) (f:Nat→Value) (h:Heap) (K:Value→Heap→Prop):stepP P o f h K=stepK P o f h K:=by
 cases o <;> simp only [stepP,stepK,pureP_eq,OP_eq,OH_eq,CallP_eq,CallVP_eq]

def gopsP (P:Program) (l:List GOper) (K:(Nat→Value)→Heap→Prop):(Nat→Value)→Heap→Prop:=
 List.rec (motive:=fun _=>(Nat→Value)→Heap→Prop) (fun f h=>K f h) (fun o _ ih f h=>stepP P o.op f h fun v h'=>ih (updO f o.dst v) h') l

theorem gopsP_eq (P:Program) (l:List GOper) (K:(Nat→Value)→Heap→Prop):∀(f:Nat→Value) (h:Heap),gopsP P l K f h=gops P l K f h:=by
 induction l with
 | nil=>intro f h;rfl
 | cons o os ih=>
  intro f h
  show stepP P o.op f h (fun v h'=>gopsP P os K (updO f o.dst v) h')=_
  rw [stepP_eq,gops]
  congr 1
  funext v h'
  exact ih _ _

def opsP (P:Program) (g:Option (Nat×Bool)) (l:List GOper) (K:(Nat→Value)→Heap→Prop) (f:Nat→Value) (h:Heap):Prop:=
 match g with
 | none=>gopsP P l K f h
 | some (s,b)=>GdP (f s) b (gopsP P l K f h) (K (undefs l f) h)

theorem opsP_eq (P:Program) (g:Option (Nat×Bool)) (l:List GOper) (K:(Nat→Value)→Heap→Prop) (f:Nat→Value) (h:Heap):opsP P g l K f h=opsK P g l K f h:=by
 unfold opsP opsK
 split <;> simp only [gopsP_eq,GdP_eq]

abbrev DNext:=List (Nat×Heap)→Loads→Value→Heap→Prop

def dwantP (P:Program) (io:IOp) (pre j:Nat) (heaps:List (Nat×Heap)) (loads:Loads) (f:Nat→Value) (h:Heap) (next:DNext):Prop:=
 match io with
 | .p po=>pureP po (ev f) fun v=>next heaps loads v h
 | .l lo=>OP (iload lo (ev f) h) fun v=>chkPast pre lo f v heaps∧next heaps (loads++[(j,lo,f,v)]) v h
 | .e (.fl a)=>OH (ieff (.fl a) (ev f) h) fun v h'=>OP (iObj h' v) fun u=>chkFut pre h' loads∧next (heaps++[(j,h)]) (loads++[(j,.obj (.const v),f,u)]) v h'
 | .e eo=>OH (ieff eo (ev f) h) fun v h'=>chkFut pre h' loads∧next (heaps++[(j,h)]) loads v h'
 | .call g args=>CallP P g (args.map (ev f)) h fun v h'=>chkFut pre h' loads∧next (heaps++[(j,h)]) loads v h'
 | .callv x args=>CallVP P (ev f x) (args.map (ev f)) h fun v h'=>chkFut pre h' loads∧next (heaps++[(j,h)]) loads v h'

theorem dwantP_eq (P:Program) (io:IOp) (pre j:Nat) (heaps:List (Nat×Heap)) (loads:Loads) (f:Nat→Value) (h:Heap) (next:DNext):
  dwantP P io pre j heaps loads f h next=dwant P io pre j heaps loads f h next:=by
 cases io with
 | e eo=>cases eo <;> simp only [dwantP,dwant,OP_eq,OH_eq]
 | _=>simp only [dwantP,dwant,pureP_eq,OP_eq,OH_eq,CallP_eq,CallVP_eq]

abbrev DKont:=List (Nat×Heap)→Loads→(Nat→Value)→Heap→Prop

def gdrunP (P:Program):List GDOper→Nat→List (Nat×Heap)→Loads→DKont→(Nat→Value)→Heap→Prop
 | [],_,heaps,loads,K,f,h=>K heaps loads f h
 | o::os,j,heaps,loads,K,f,h=>dwantP P o.op o.pre j heaps loads f h fun heaps loads v h'=>gdrunP P os (j+1) heaps loads K (updO f o.dst v) h'

theorem gdrunP_eq (P:Program):∀(l:List GDOper) (j:Nat) (heaps:List (Nat×Heap)) (loads:Loads) (K:DKont) (f:Nat→Value) (h:Heap),gdrunP P l j heaps loads K f h=gdrun P l j heaps loads K f h
 | [],_,_,_,_,_,_=>rfl
 | o::os,j,heaps,loads,K,f,h=>by
  rw [gdrunP,gdrun,dwantP_eq]
  congr 1
  funext heaps loads v h'
  exact gdrunP_eq P os _ _ _ _ _ _

def gdopsP (P:Program):List (Option (Nat×Bool)×List GDOper)→Nat→List (Nat×Heap)→Loads→((Nat→Value)→Heap→Prop)→(Nat→Value)→Heap→Prop
 | [],_,_,_,K,f,h=>K f h
 | (none,l)::gs,j,heaps,loads,K,f,h=>gdrunP P l j heaps loads (fun heaps loads f h=>gdopsP P gs (j+l.length) heaps loads K f h) f h
 | (some (s,b),l)::gs,j,heaps,loads,K,f,h=>
  GdP (f s) b (gdrunP P l j heaps loads (fun heaps loads f h=>gdopsP P gs (j+l.length) heaps loads K f h) f h)
   (gdskip l j heaps loads (fun heaps loads f h=>gdopsP P gs (j+l.length) heaps loads K f h) f h)

theorem gdopsP_eq (P:Program):∀(gs:List (Option (Nat×Bool)×List GDOper)) (j:Nat) (heaps:List (Nat×Heap)) (loads:Loads) (K:(Nat→Value)→Heap→Prop) (f:Nat→Value) (h:Heap),
  gdopsP P gs j heaps loads K f h=gdops P gs j heaps loads K f h
 | [],_,_,_,_,_,_=>rfl
 | (none,l)::gs,j,heaps,loads,K,f,h=>by
  have e:(fun heaps loads f h=>gdopsP P gs (j+l.length) heaps loads K f h)=fun heaps loads f h=>gdops P gs (j+l.length) heaps loads K f h:=by
   funext a b c d;exact gdopsP_eq P gs _ _ _ _ _ _
  rw [gdopsP,gdops,gdrunP_eq,e]
 | (some (s,b),l)::gs,j,heaps,loads,K,f,h=>by
  have e:(fun heaps loads f h=>gdopsP P gs (j+l.length) heaps loads K f h)=fun heaps loads f h=>gdops P gs (j+l.length) heaps loads K f h:=by
   funext a b c d;exact gdopsP_eq P gs _ _ _ _ _ _
  rw [gdopsP,gdops,gdrunP_eq,e,GdP_eq]

noncomputable def iwpP (P:Program) (c:ICode):Kont→(Nat→Value)→Heap→Prop:=
 ICode.rec (motive:=fun _=>Kont→(Nat→Value)→Heap→Prop)
  (fun K f h=>K .normal f h)
  (fun l K f h=>gdopsP P l 0 [] [] (K .normal) f h)
  (fun g l K f h=>opsP P g l (K .normal) f h)
  (fun _ _ ia ib K f h=>ia (thenK (ib K) K) f h)
  (fun ls _ ic K f h=>CutP (ic K) ls (ls.map f) h)
  (fun c _ _ ia ib K f h=>IfP (ev f c) (ia K f h) (ib K f h))
  (fun id _ ic K f h=>ic (inBlockK id K) f h)
  (fun ks ls _ ic K f h=>LoopP (ls.map f) h fun L xs hx=>CutP (ic (thenK (fun f' h''=>ks.map f'=ks.map f∧L (ls.map f') h'') K)) (ks++ls) (ks.map f++xs) hx)
  (fun id K f h=>K (.exit id) f h)
  (fun K f h=>K .ret f h)
  (fun g ls c K f h=>RangeP P (ev f g) ls (ls.map f) c h (K .normal f)) c

theorem iwpP_eq (P:Program) (c:ICode):iwpP P c=iwp P c:=by
 induction c with
 | skip=>rfl
 | dops l=>funext K f h;exact gdopsP_eq P l 0 [] [] (K .normal) f h
 | ops g l=>funext K f h;exact opsP_eq P g l (K .normal) f h
 | seq a b iha ihb=>
  funext K f h
  show iwpP P a (thenK (iwpP P b K) K) f h=iwp P a (thenK (iwp P b K) K) f h
  rw [iha,ihb]
 | cut ls c ih=>
  funext K f h
  show CutP (iwpP P c K) ls (ls.map f) h=cutK (iwp P c K) ls (ls.map f) h
  rw [ih,CutP_eq]
 | cond c a b iha ihb=>
  funext K f h
  show IfP (ev f c) (iwpP P a K f h) (iwpP P b K f h)=condK (ev f c) (iwp P a K f h) (iwp P b K f h)
  rw [iha,ihb,IfP_eq]
 | block id c ih=>
  funext K f h
  show iwpP P c (inBlockK id K) f h=iwp P c (inBlockK id K) f h
  rw [ih]
 | loop ks ls c ih=>
  funext K f h
  show LoopP (ls.map f) h (fun L xs hx=>CutP (iwpP P c (thenK (fun f' h''=>ks.map f'=ks.map f∧L (ls.map f') h'') K)) (ks++ls) (ks.map f++xs) hx)=
   loopK (ls.map f) h (fun L xs hx=>iwp P c (thenK (fun f' h''=>ks.map f'=ks.map f∧L (ls.map f') h'') K) (ofl (ks++ls) (ks.map f++xs)) hx)
  rw [ih,LoopP_eq,CutP_eq]
  rfl
 | exit id=>rfl
 | ret=>rfl
 | range g ls c=>
  funext K f h
  show RangeP P (ev f g) ls (ls.map f) c h (K .normal f)=rangeK P (ev f g) ls (ls.map f) c h (K .normal f)
  rw [RangeP_eq]

def retP:List IRes→(Nat→Value)→Heap→(List Value→Prop)→Prop
 | [],_,_,k=>k []
 | .tmp t::rs,f,h,k=>retP rs f h fun vs=>k (f t::vs)
 | .cell agg n a::rs,f,h,k=>OP (iLoad agg n h (f a)) fun v=>retP rs f h fun vs=>k (v::vs)

theorem retP_eq:∀(rs:List IRes) (f:Nat→Value) (h:Heap) (k:List Value→Prop),retP rs f h k=retL rs f h k
 | [],_,_,_=>rfl
 | .tmp _::rs,f,h,k=>retP_eq rs f h _
 | .cell agg n a::rs,f,h,k=>by
  rw [retP,retL,OP_eq]
  congr 1
  funext v
  exact retP_eq rs f h _

def bodyP (rs:List IRes) (K:Value→Heap→Prop):Kont
 | .normal,f,h=>retP rs f h fun vs=>K (pack vs) h
 | .ret,f,h=>retP rs f h fun vs=>K (pack vs) h
 | _,_,_=>False

theorem bodyP_eq (rs:List IRes) (K:Value→Heap→Prop):bodyP rs K=bodyK rs K:=by
 funext e f h
 cases e <;> first | rfl | exact retP_eq rs f h _

theorem callP_intro {P:Program} {F:FuncId} {N:Nat} {ic:ICode} {rs:List IRes} {hs:Hints} {h:Heap} (hc:compFn P F hs=some (N,ic,rs)) {args:List Value} (ha:args.length≤N)
  {K:Value→Heap→Prop} (hi:iwpP P ic (bodyP rs K) (frame0 args) h):CallP P F args h K:=
 .mk (icall_intro hc ha (by rw [←iwpP_eq,←bodyP_eq];exact hi))

end Go.Sim


namespace Go.Sim

section wrappers
variable {A B : Prop} {K : Value → Prop} {K2 : Value → Heap → Prop} {v : Value} {h : Heap}

@[simp] theorem OP_some : OP (some v) K ↔ K v := ⟨fun ⟨h⟩ => h, fun h => .mk h⟩
@[simp] theorem OH_some : OH (some (v, h)) K2 ↔ K2 v h := ⟨fun ⟨h⟩ => h, fun h => .mk h⟩
theorem OH_of {o:Option (Value×Heap)} (ho:o=some (v,h)) (hk:K2 v h):OH o K2:=by rw [ho];exact OH_some.2 hk
@[simp] theorem IfP_true : IfP (.bool true) A B ↔ A := ⟨fun ⟨h⟩ => by simpa [condK] using h, fun h => .mk (by simpa [condK] using h)⟩
@[simp] theorem IfP_false : IfP (.bool false) A B ↔ B := ⟨fun ⟨h⟩ => by simpa [condK] using h, fun h => .mk (by simpa [condK] using h)⟩
theorem IfP_of {b:Bool} (h1:b=true→A) (h2:b=false→B):IfP (.bool b) A B:=by cases b <;> simp [h1,h2]
@[simp] theorem IfP_dec {p : Prop} [Decidable p] : IfP (.bool (decide p)) A B ↔ (p → A) ∧ (¬ p → B) := by by_cases hp : p <;> simp [hp]
@[simp] theorem IfP_ndec {p : Prop} [Decidable p] : IfP (.bool (!decide p)) A B ↔ (¬ p → A) ∧ (p → B) := by by_cases hp : p <;> simp [hp]
@[simp] theorem GdP_tt : GdP (.bool true) true A B ↔ A := ⟨fun ⟨h⟩ => by simpa [guardK] using h, fun h => .mk (by simpa [guardK] using h)⟩
@[simp] theorem GdP_tf : GdP (.bool true) false A B ↔ B := ⟨fun ⟨h⟩ => by simpa [guardK] using h, fun h => .mk (by simpa [guardK] using h)⟩
@[simp] theorem GdP_ft : GdP (.bool false) true A B ↔ B := ⟨fun ⟨h⟩ => by simpa [guardK] using h, fun h => .mk (by simpa [guardK] using h)⟩
@[simp] theorem GdP_ff : GdP (.bool false) false A B ↔ A := ⟨fun ⟨h⟩ => by simpa [guardK] using h, fun h => .mk (by simpa [guardK] using h)⟩
@[simp] theorem GdP_undef {b : Bool} : GdP undef b A B ↔ B := ⟨fun ⟨h⟩ => by simpa [guardK, undef] using h, fun h => .mk (by simpa [guardK, undef] using h)⟩
@[simp] theorem iPick_t (a b : Value) : iPick (.bool true) a b = some a := rfl
@[simp] theorem iPick_f (a b : Value) : iPick (.bool false) a b = some b := rfl

theorem CallP.mono {P:Program} {F:FuncId} {args:List Value} {K K':Value→Heap→Prop} (hc:CallP P F args h K) (hk:∀v h',K v h'→K' v h'):CallP P F args h K':=by
 rw [CallP_eq] at hc⊢
 exact hc.mono hk

end wrappers

abbrev I (n:Int):Value:=.int .i64 n
abbrev B (b:Bool):Value:=.bool b
abbrev cv (c:UInt8):Value:=.int .u8 (c.toNat:Int)
abbrev pt (i o:Nat):Value:=.pointer (some ⟨i,o,none⟩)

theorem wrap64 {n:Int} (h1: -9223372036854775808≤n) (h2:n<9223372036854775808):IntKind.wrap .i64 n=n:=by
 have e:IntKind.wrap .i64 n=if n%18446744073709551616≥9223372036854775808 then n%18446744073709551616-18446744073709551616 else n%18446744073709551616:=by
  simp [IntKind.wrap,IntKind.bits,IntKind.signed]
 rw [e]
 split <;> omega

theorem wrapU8 {n:Int} (h1:0≤n) (h2:n<256):IntKind.wrap .u8 n=n:=by
 have e:IntKind.wrap .u8 n=n%256:=by
  simp [IntKind.wrap,IntKind.bits,IntKind.signed]
 rw [e]
 omega

section ints
variable (k : IntKind) (a b : Int)
@[simp] theorem bin_lss : iBin .lss (.int k a) (.int k b) = some (.bool (decide (a < b))) := by simp [iBin, iInt]
@[simp] theorem bin_leq : iBin .leq (.int k a) (.int k b) = some (.bool (decide (a ≤ b))) := by simp [iBin, iInt]
@[simp] theorem bin_gtr : iBin .gtr (.int k a) (.int k b) = some (.bool (decide (b < a))) := by simp [iBin, iInt]
@[simp] theorem bin_geq : iBin .geq (.int k a) (.int k b) = some (.bool (decide (b ≤ a))) := by simp [iBin, iInt]
@[simp] theorem bin_eql : iBin .eql (.int k a) (.int k b) = some (.bool (decide (a = b))) := by simp [iBin, iInt]
@[simp] theorem bin_neq : iBin .neq (.int k a) (.int k b) = some (.bool (!decide (a = b))) := by simp [iBin, iInt]
@[simp] theorem bin_add : iBin .add (.int k a) (.int k b) = some (.int k (k.wrap (a + b))) := by simp [iBin, iInt]
@[simp] theorem bin_sub : iBin .sub (.int k a) (.int k b) = some (.int k (k.wrap (a - b))) := by simp [iBin, iInt]
@[simp] theorem bin_mul : iBin .mul (.int k a) (.int k b) = some (.int k (k.wrap (a * b))) := by simp [iBin, iInt]
@[simp] theorem un_not (b : Bool) : iUn .not (.bool b) = some (.bool !b) := rfl
@[simp] theorem un_neg : iUn .neg (.int k a) = some (.int k (k.wrap (0 - a))) := rfl
@[simp] theorem conv_int (k' : IntKind) : iConv k' (.int k a) = some (.int k' (k'.wrap a)) := rfl
@[simp] theorem eqb_bool (n x y : Bool) : iEqb n (.bool x) (.bool y) = some (.bool (if n then !(x == y) else x == y)) := rfl
@[simp] theorem ext_tuple (i : Nat) (vs : Array Value) : iExt i (.tuple vs) = vs[i]? := rfl
end ints

section strings
variable (a b : List UInt8)
@[simp] theorem bytes_lit (l : List UInt8) : bytes ⟨l.toArray⟩ = l := bytes_mk l
@[simp] theorem lenS_S : iLenS (S a) = some (I a.length) := by simp [iLenS, S]
@[simp] theorem bin_eqlS : iBin .eql (S a) (S b) = some (.bool (decide (a = b))) := by simp [iBin, iStr, S]
@[simp] theorem bin_neqS : iBin .neq (S a) (S b) = some (.bool (!decide (a = b))) := by simp [iBin, iStr, S]
theorem bin_addS (h:a.length+b.length≤maxLen):iBin .add (S a) (S b)=some (S (a++b)):=by
 simp only [iBin,iStr,S,bytes_lit,if_pos h]
theorem idxS_S {i:Nat} (h:i<a.length) (k:IntKind):iIdxS (S a) (.int k (i:Int))=some (cv a[i]):=by simp [iIdxS,S,h]
theorem slS_hi {n:Nat} (h:n≤a.length) (k:IntKind):iSlS (S a) none (some (.int k (n:Int)))=some (S (a.take n)):=by simp [iSlS,S,iBounds,natOf,h]
theorem slS_lo {n:Nat} (h:n≤a.length) (k:IntKind):iSlS (S a) (some (.int k (n:Int))) none=some (S (a.drop n)):=by simp [iSlS,S,iBounds,natOf,h]
end strings


theorem loopS {σ:Type} {init:List Value} {h:Heap} {Q:(List Value→Heap→Prop)→List Value→Heap→Prop} (enc:σ→List Value) (hp:σ→Heap) (J:σ→Prop) (μ:σ→Nat) (s0:σ)
  (e0:enc s0=init) (eh:hp s0=h) (j0:J s0) (hr:∀s,J s→Q (fun ys hy=>∃s',enc s'=ys∧hp s'=hy∧J s'∧μ s'<μ s) (enc s) (hp s)):LoopP init h Q:=by
 refine .mk ?_
 have least:∀ys hy,(∃s,enc s=ys∧hp s=hy∧J s)→∃m,(∃s,enc s=ys∧hp s=hy∧J s∧μ s=m)∧∀s,enc s=ys→hp s=hy→J s→m≤μ s:=by
  rintro ys hy ⟨s,h1,h2,h3⟩
  have key:∀n,(∃s,enc s=ys∧hp s=hy∧J s∧μ s=n)→∃m,(∃s,enc s=ys∧hp s=hy∧J s∧μ s=m)∧∀s,enc s=ys→hp s=hy→J s→m≤μ s:=by
   intro n
   induction n using Nat.strongRecOn with
   | _ n ih=>
    intro hn
    by_cases hlt:∃s,enc s=ys∧hp s=hy∧J s∧μ s<n
    ·obtain ⟨s',a,b,c,d⟩:=hlt
     exact ih (μ s') d ⟨s',a,b,c,rfl⟩
    ·exact ⟨n,hn,fun s' a b c=>Nat.le_of_not_lt fun d=>hlt ⟨s',a,b,c,d⟩⟩
  exact key _ ⟨s,h1,h2,h3,rfl⟩
 classical
 refine ⟨fun ys hy=>∃s,enc s=ys∧hp s=hy∧J s,fun ys hy=>if hJ:∃s,enc s=ys∧hp s=hy∧J s then Classical.choose (least ys hy hJ) else 0,⟨s0,e0,eh,j0⟩,?_⟩
 rintro xs hx hJ
 have hspec:=Classical.choose_spec (least xs hx hJ)
 simp only [dif_pos hJ]
 generalize Classical.choose (least xs hx hJ)=m at hspec
 obtain ⟨⟨s,a,b,c,d⟩,_⟩:=hspec
 have:=hr s c
 rw [a,b] at this
 have he:(fun (ys:List Value) (hy:Heap)=>(∃s,enc s=ys∧hp s=hy∧J s)∧(if hJ:∃s,enc s=ys∧hp s=hy∧J s then Classical.choose (least ys hy hJ) else 0)<m)=
   fun ys hy=>∃s',enc s'=ys∧hp s'=hy∧J s'∧μ s'<μ s:=by
  funext ys hy
  apply propext
  constructor
  ·rintro ⟨hJ',hlt⟩
   rw [dif_pos hJ'] at hlt
   obtain ⟨⟨s',a',b',c',d'⟩,_⟩:=Classical.choose_spec (least ys hy hJ')
   exact ⟨s',a',b',c',by rw [d',d];exact hlt⟩
  ·rintro ⟨s',a',b',c',d'⟩
   refine ⟨⟨s',a',b',c'⟩,?_⟩
   rw [dif_pos ⟨s',a',b',c'⟩]
   have:=(Classical.choose_spec (least ys hy ⟨s',a',b',c'⟩)).2 s' a' b' c'
   omega
 rw [he]
 exact this

theorem loopL {σ:Type} {init:List Value} {h:Heap} {Q:(List Value→Heap→Prop)→List Value→Heap→Prop} (enc:σ→List Value) (hp:σ→Heap) (J:σ→Prop) (μ:σ→Nat) (s0:σ)
  (e0:enc s0=init) (eh:hp s0=h) (j0:J s0) (hr:∀s,J s→∀L:List Value→Heap→Prop,(∀s',J s'→μ s'<μ s→L (enc s') (hp s'))→Q L (enc s) (hp s)):LoopP init h Q:=
 loopS enc hp J μ s0 e0 eh j0 fun s hs=>hr s hs _ fun s' h1 h2=>⟨s',rfl,rfl,h1,h2⟩


def EX (h h':Heap):Prop:=h.length≤h'.length∧∀i,i<h.length→h'[i]?=h[i]?

theorem EX.refl (h:Heap):EX h h:=⟨Nat.le_refl _,fun _ _=>rfl⟩
theorem EX.trans {a b c:Heap} (h:EX a b) (k:EX b c):EX a c:=⟨Nat.le_trans h.1 k.1,fun i hi=>(k.2 i (Nat.lt_of_lt_of_le hi h.1)).trans (h.2 i hi)⟩
theorem EX.append (h g:Heap):EX h (h++g):=⟨by simp,fun i hi=>List.getElem?_append_left hi⟩
theorem EX.push {a h:Heap} (k:EX a h) (g:Heap):EX a (h++g):=k.trans (.append h g)
theorem EX.set {a h:Heap} (k:EX a h) {i:Nat} (hi:a.length≤i) (o:IObj):EX a (h.set i o):=⟨by simpa using k.1,fun j hj=>by rw [List.getElem?_set_ne (by omega)];exact k.2 j hj⟩
theorem EX.get {a h:Heap} (k:EX a h) {i:Nat} {o:IObj} (hi:a[i]?=some o):h[i]?=some o:=by rw [k.2 i (List.getElem?_eq_some_iff.1 hi).1];exact hi
theorem EX.cells {a h:Heap} (k:EX a h) {i:Nat} {xs:List Value} (hi:objCells a i=some xs):objCells h i=some xs:=by
 unfold objCells at hi⊢
 have hlt:i<a.length:=by
  apply Classical.byContradiction
  intro hc
  rw [List.getElem?_eq_none (Nat.le_of_not_lt hc)] at hi
  simp at hi
 rw [k.2 i hlt]
 exact hi

def scal:Value→Bool
 | .bool _ | .int .. | .string _ | .nilFunc | .nilIface=>true
 | .pointer none | .map none=>true
 | .slice none 0 0=>true
 | _=>false

theorem scal.rel {ρ ρ':RMap} {v v':Value} (h:scal v=true) (hv:VRel ρ v v'):VRel ρ' v v':=by
 unfold scal at h
 split at h
 ·cases hv;exact .bool _
 ·cases hv;exact .int _ _
 ·cases hv;exact .string _
 ·cases hv;exact .nilFunc
 ·cases hv;exact .nilIface
 ·cases hv;exact .nilPtr
 ·cases hv;exact .nilMap
 ·cases hv;exact .nilSlice
 ·cases h

def Ren (V:Nat→Value):Prop:=∀(ρ ρ':RMap) (i j:Nat) (v':Value),ρ' j=ρ i→VRel ρ (V i) v'→VRel ρ' (V j) v'

theorem Ren.scal {v:Value} (h:scal v=true):Ren fun _=>v:=fun _ _ _ _ _ _ hv=>scal.rel h hv
theorem Ren.pt (o:Nat):Ren fun i=>pt i o:=by
 intro ρ ρ' i j v' e hv
 cases hv with
 | ptr hr=>exact .ptr (by rw [e];exact hr)
theorem Ren.sl (e:TypeId) (o n:Nat):Ren fun i=>sl e i o n:=by
 intro ρ ρ' i j v' he hv
 cases hv with
 | slice hr a b c d=>exact .slice (by rw [he];exact hr) a b c d

inductive RenL:List (Nat→Value)→Prop
 | nil:RenL []
 | cons {V:Nat→Value} {l:List (Nat→Value)}:Ren V→RenL l→RenL (V::l)

theorem RenL.rel {l:List (Nat→Value)} (h:RenL l) {ρ ρ':RMap} {i j:Nat} (e:ρ' j=ρ i):∀{ys:List Value},VsRel ρ (l.map (· i)) ys→VsRel ρ' (l.map (· j)) ys:=by
 induction h with
 | nil=>intro ys hv;cases hv;exact .nil
 | cons hV _ ih=>intro ys hv;cases hv with | cons a b=>exact .cons (hV _ _ _ _ _ e a) (ih b)

theorem Ren.tuple {l:List (Nat→Value)} (h:RenL l):Ren fun i=>.tuple (l.map (· i)).toArray:=by
 intro ρ ρ' i j v' e hv
 cases hv with
 | tuple hs hr=>
  rename_i xs'
  have:=h.rel e (VsRel.toArr hs hr)
  have:=VRel.tupleL this
  simpa using this

theorem Ren.agg {l:List (Nat→Value)} (h:RenL l) (hc:∀j,∀V∈l,isCell (V j)=true):Ren fun i=>.agg (l.map (· i)).toArray:=by
 intro ρ ρ' i j v' e hv
 cases hv with
 | agg hs h1 hr=>
  rename_i xs'
  have:=h.rel e (VsRel.toArr hs hr)
  have:=VRel.aggL this (by
   intro x hx
   simp only [List.mem_map] at hx
   obtain ⟨V,hV,rfl⟩:=hx
   exact hc j V hV)
  simpa using this

section gc
variable {P : Program} {F : FuncId} {args : List Value} {h : Heap}

def plainObj:IObj→Bool
 | .ro _ xs | .arr _ xs=>xs.all scal
 | .smap es=>es.all fun p=>scal p.2
 | .imap _ es=>es.all fun p=>scal p.2
 | .gmap _ _ es=>es.all fun p=>scal p.2.2
 | _=>false

theorem plainObj.rel {ρ ρ':RMap} {w:World} {r:RI} {o:IObj} (hp:plainObj o=true) (h:objRel ρ w r o):objRel ρ' w r o:=by
 have cells:∀{c:Array Value} {sh:Nat} {xs:List Value},xs.all scal=true→CellsRel ρ c sh xs→CellsRel ρ' c sh xs:=by
  intro c sh xs hs hc j x hj
  obtain ⟨h1,y,hy,hr⟩:=hc j x hj
  rw [List.all_eq_true] at hs
  exact ⟨h1,y,hy,scal.rel (hs x (List.mem_of_getElem? hj)) hr⟩
 cases o with
 | ro e xs=>obtain ⟨h1,c,t,fr,h2,h3,h4⟩:=h;exact ⟨h1,c,t,fr,h2,h3,cells hp h4⟩
 | arr e xs=>obtain ⟨h1,h0,c,h2,h3,h4⟩:=h;exact ⟨h1,h0,c,h2,h3,cells hp h4⟩
 | smap es=>
  obtain ⟨ents,clock,h1,h2,h3⟩:=h
  refine ⟨ents,clock,h1,h2,fun j k v hj=>?_⟩
  obtain ⟨en,e1,e2,e3⟩:=h3 j k v hj
  simp only [plainObj,List.all_eq_true] at hp
  exact ⟨en,e1,e2,scal.rel (hp (k,v) (List.mem_of_getElem? hj)) e3⟩
 | imap kd es=>
  obtain ⟨ents,clock,h1,h2,h3⟩:=h
  refine ⟨ents,clock,h1,h2,fun j k v hj=>?_⟩
  obtain ⟨en,e1,e2,e3⟩:=h3 j k v hj
  simp only [plainObj,List.all_eq_true] at hp
  exact ⟨en,e1,e2,scal.rel (hp (k,v) (List.mem_of_getElem? hj)) e3⟩
 | gmap g c es=>
  obtain ⟨h0,ents,h1,h2,h3⟩:=h
  refine ⟨h0,ents,h1,h2,fun j b k v hj=>?_⟩
  obtain ⟨e0,en,e1,e2,e2',e3⟩:=h3 j b k v hj
  simp only [plainObj,List.all_eq_true] at hp
  exact ⟨e0,en,e1,e2,e2',scal.rel (hp (b,k,v) (List.mem_of_getElem? hj)) e3⟩
 | iter m s n l=>cases hp
 | loop c ls vs=>cases hp
 | dead=>cases hp

theorem callP_any {K:Value→Heap→Prop} {v:Value} {h':Heap} (hV:Ren fun _=>v) (hc:ICall P F args [] v h') (ha:args.all scal=true) (hk:K v h):CallP P F args h K:=by
 rw [CallP_eq]
 refine ⟨v,h,?_,hk⟩
 intro ρ args' w hv H
 have hv0:∀{xs ys:List Value},xs.all scal=true→VsRel ρ xs ys→VsRel (fun _=>none) xs ys:=by
  intro xs ys hs hr
  induction hr with
  | nil=>exact .nil
  | cons a _ ih=>simp only [List.all_cons,Bool.and_eq_true] at hs;exact .cons (scal.rel hs.1 a) (ih hs.2)
 have H0:HRel P (fun _=>none) [] w:=⟨fun i r hi=>(by cases hi),fun i j r s hi=>(by cases hi),fun i r hi=>(by cases hi)⟩
 refine (hc _ args' w (hv0 ha hv) H0).mono ?_
 rintro e w' ⟨v',ρ',rfl,hv',H',T⟩
 have keep:∀b,b<w.heap.size→w'.heap[b]?=w.heap[b]?:=fun b hb=>T.wblk b hb fun j s hj=>(by cases hj)
 refine ⟨v',ρ,rfl,hV ρ' ρ h'.length h.length v' (by rw [H.none,H'.none]) hv',⟨?_,H.inj,H.esz⟩,?_⟩
 ·intro k r hr
  obtain ⟨o,ho,hrel⟩:=H.obj k r hr
  refine ⟨o,ho,?_⟩
  by_cases hd:o=.dead
  ·subst hd;trivial
  ·exact hrel.mono (.refl _) (keep _ (objBlk H hr ⟨o,ho,hd⟩))
 ·exact {
   ext:=.refl _
   len:=Nat.le_refl _
   dom:=fun k r hr=>H.lt hr
   kinds:=fun _ _ h=>h
   fresh:=fun k r h1 h2=>by rw [h1] at h2;cases h2
   wsize:=T.wsize
   wblk:=fun b hb _=>keep b hb
   os:=T.os
   tape:=T.tape
   output:=T.output }
end gc
end Go.Sim


namespace Go.Sim
open Go.ChangeShapes Go.WideShapes Go.ChangeAt Go.RowKit

def roH (h:Heap):Prop:=∀i,¬isMut h i

section
variable {P : Program} {W : World} {ρ : RMap} {h : Heap}

theorem HRel.start (P:Program) (W:World):HRel P (fun _=>Option.none) [] W:=⟨fun i r hi=>(by cases hi),fun i j r s hi=>(by cases hi),fun i r hi=>(by cases hi)⟩
theorem roH.start:roH []:=fun i hm=>by unfold isMut at hm;simp at hm

theorem HRel.addRo (H:HRel P ρ h W) (hr:roH h) {r:RI} (he:r.esz=P.cellsOf r.elem) {o:IObj} (hno:o=.dead∨∃e xs,o=.ro e xs) (ho:objRel (ρ.add h.length r) W r o):
  HRel P (ρ.add h.length r) (h++[o]) W∧roH (h++[o])∧ρ.le (ρ.add h.length r):=by
 have hro:roH (h++[o]):=by
  intro i hm
  unfold isMut at hm
  by_cases hi:i<h.length
  ·rw [List.getElem?_append_left hi] at hm
   exact hr i hm
  ·by_cases he:i=h.length
   ·subst he
    have e:(h++[o])[h.length]?=some o:=by simp
    rw [e] at hm
    rcases hno with rfl | ⟨_,_,rfl⟩ <;> rcases hm with ⟨_,_,h1⟩ | ⟨_,h1⟩ | ⟨_,_,_,h1⟩ | ⟨_,_,h1⟩ | ⟨_,_,_,h1⟩ | ⟨_,_,_,_,h1⟩ <;> cases h1
   ·rw [List.getElem?_eq_none (by simp;omega)] at hm
    rcases hm with ⟨_,_,h1⟩ | ⟨_,h1⟩ | ⟨_,_,_,h1⟩ | ⟨_,_,h1⟩ | ⟨_,_,_,h1⟩ | ⟨_,_,_,_,h1⟩ <;> cases h1
 refine ⟨⟨?_,fun i j r s _ _ _ hm=>absurd hm (hro i),?_⟩,hro,RMap.le_add H.none⟩
 ·intro i s hi
  unfold RMap.add at hi
  split at hi
  ·rename_i e
   subst e
   cases hi
   exact ⟨o,by simp,ho⟩
  ·obtain ⟨o',h1,h2⟩:=H.obj i s hi
   exact ⟨o',by rw [List.getElem?_append_left (H.lt hi)];exact h1,h2.mono (RMap.le_add H.none) rfl⟩
 ·intro i s hi
  unfold RMap.add at hi
  split at hi
  ·cases hi;exact he
  ·exact H.esz i s hi

theorem scal.self {v:Value} (hs:scal v=true) (ρ:RMap):VRel ρ v v:=by
 unfold scal at hs
 split at hs
 ·exact .bool _
 ·exact .int _ _
 ·exact .string _
 ·exact .nilFunc
 ·exact .nilIface
 ·exact .nilPtr
 ·exact .nilMap
 ·exact .nilSlice
 ·cases hs

theorem scal.cell {v:Value} (hs:scal v=true):isCell v=true:=by
 unfold scal at hs
 split at hs <;> first | rfl | cases hs

variable {H : Type} {enc : TypeId × Value → H}

theorem addr_eq {a:Addr} (hs:a.spot=none) (n:Nat):a.add n=⟨a.block,a.off+n,none⟩:=by
 obtain ⟨b,o,s⟩:=a
 simp only at hs
 subst hs
 unfold Addr.add
 split
 ·rename_i h;subst h;rfl
 ·rfl

theorem emb_sliceS {t e:TypeId} (ht:P.underlying t=some (.slice e)) (hpos:P.cellsOf e≠0)
  (flat:∀n cs y,DataW.trod enc P W 0 (fun _=>true) true n e cs=some y→cs.length=P.cellsOf e∧∀x∈cs,scal x=true)
  {fuel:Nat} {v:Value} {x:DataW H×List MemPlace} (hd:DataW.trod enc P W 0 (fun _=>true) true fuel t [v]=some x) (hok:∀(a:Addr) (len cap:Nat),v=.slice (some a) len cap→a.spot=none) (HR:HRel P ρ h W) (hro:roH h):
  ∃(ρ':RMap) (g:Heap) (v':Value) (n:Nat) (xs:List Value),ρ.le ρ'∧HRel P ρ' (h++g) W∧roH (h++g)∧VRel ρ' v' v∧isCell v'=true∧
   ((v'=.slice none 0 0∧n=0)∨∃i,v'=sl e i 0 n∧(n=0∨objCells (h++g) i=some xs))∧xs.length=n*P.cellsOf e∧(∀y∈xs,scal y=true)∧
   ∀i,i<n→∃m y,DataW.trod enc P W 0 (fun _=>true) true m e ((xs.drop (i*P.cellsOf e)).take (P.cellsOf e))=some y:=by
 rcases DataW.trod_slice ht hd with ⟨h1,_⟩ | ⟨a,len,cap,elems,rest,n,_,h1,_,hb,hl,hm,hlen,hel,hsp,_⟩
 ·obtain rfl:v=.slice none 0 0:=by simpa using h1
  exact ⟨ρ,[],.slice none 0 0,0,[],.refl _,by simpa using HR,by simpa using hro,.nilSlice,rfl,.inl ⟨rfl,rfl⟩,by simp,by simp,fun i hi=>by omega⟩
 ·obtain rfl:v=.slice (some a) len cap:=by simpa using h1
  have hspot:a.spot=none:=hok a len cap rfl
  obtain ⟨hrl,hr⟩:=hsp rfl
  -- every element's cells lie there
  have each:∀i,i<cap→∃cs y,W.cells? 0 (a.add (i*P.cellsOf e)) (P.cellsOf e)=some cs∧DataW.trod enc P W 0 (fun _=>true) true n e cs=some y:=by
   intro i hi
   have hb':∃y,(W.cells? 0 (a.add (i*P.cellsOf e)) (P.cellsOf e)).bind (DataW.trod enc P W 0 (fun _=>true) true n e)=some y:=by
    by_cases hil:i<len
    ·rw [hel i hil,List.getElem?_eq_getElem (by omega)]
     exact ⟨_,rfl⟩
    ·have:=hr (i-len) (by omega)
     rw [show len+(i-len)=i by omega] at this
     rw [this,List.getElem?_eq_getElem (by omega)]
     exact ⟨_,rfl⟩
   obtain ⟨y,hy⟩:=hb'
   rw [Option.bind_eq_some_iff] at hy
   obtain ⟨cs,h1,h2⟩:=hy
   exact ⟨cs,y,h1,h2⟩
  by_cases hc0:cap=0
  ·subst hc0
   obtain rfl:len=0:=by omega
   obtain ⟨H',hro',hle⟩:=HR.addRo hro (r:=⟨a.block,a.off,e,P.cellsOf e,a.off⟩) rfl (.inl rfl) trivial
   refine ⟨_,[.dead],sl e h.length 0 0,0,[],hle,H',hro',?_,rfl,.inr ⟨_,rfl,.inl rfl⟩,by simp,by simp,fun i hi=>by omega⟩
   obtain ⟨ab,ao,asz⟩:=a
   simp only at hspot
   subst hspot
   exact VRel.slice (ρ:=ρ.add h.length ⟨ab,ao,e,P.cellsOf e,ao⟩) (i:=h.length) (o:=0) (n:=0) (o':=ao) (c':=0) (r:=⟨ab,ao,e,P.cellsOf e,ao⟩) (by simp [RMap.add]) (.inl rfl) (Nat.le_refl _) (by unfold maxLen;omega) (by simp)
  ·have hesz:0<P.cellsOf e:=by omega
   -- the block
   have hblk:∃c tt fr,W.heap[a.block]?=some (.cells c tt fr):=by
    obtain ⟨cs,y,h1,h2⟩:=each 0 (by omega)
    obtain ⟨_,g2,g3⟩:=World.cells?_some h1
    have:=g3 0 hesz
    rw [Nat.zero_mul,addr_eq hspot 0,addr_eq rfl 0,List.getElem?_eq_getElem (by omega)] at this
    unfold World.cell? at this
    split at this
    ·rename_i c tt fr hh;exact ⟨c,tt,fr,hh⟩
    ·cases this
   obtain ⟨c,tt,fr,hcell⟩:=hblk
   have get:∀i cs,W.cells? 0 (a.add (i*P.cellsOf e)) (P.cellsOf e)=some cs→∀j,j<P.cellsOf e→c[a.off+(i*P.cellsOf e+j)]?=cs[j]?:=by
    intro i cs h1 j hj
    obtain ⟨_,g2,g3⟩:=World.cells?_some h1
    have:=g3 j hj
    rw [addr_eq hspot,addr_eq rfl] at this
    simp only [World.cell?,hcell] at this
    simpa [Nat.add_assoc] using this
   have here:∀j,j<cap*P.cellsOf e→∃y,c[a.off+j]?=some y∧scal y=true:=by
    intro j hj
    have hi:j / P.cellsOf e<cap:=(Nat.div_lt_iff_lt_mul hesz).2 hj
    obtain ⟨cs,y,h1,h2⟩:=each _ hi
    obtain ⟨f1,f2⟩:=flat n cs y h2
    have hmod:j%P.cellsOf e<P.cellsOf e:=Nat.mod_lt _ hesz
    have:=get _ cs h1 (j%P.cellsOf e) hmod
    rw [show j / P.cellsOf e*P.cellsOf e+j%P.cellsOf e=j by rw [Nat.mul_comm];exact Nat.div_add_mod j _] at this
    rw [this,List.getElem?_eq_getElem (by omega)]
    exact ⟨_,rfl,f2 _ (List.getElem_mem _)⟩
   let xs:=(List.range (len*P.cellsOf e)).map fun j=>c.getD (a.off+j) Go.undef
   have hxl:xs.length=len*P.cellsOf e:=by simp [xs]
   have hlc:len*P.cellsOf e≤cap*P.cellsOf e:=Nat.mul_le_mul_right _ hl
   have hxg:∀j,j<len*P.cellsOf e→xs[j]?=c[a.off+j]?:=by
    intro j hj
    obtain ⟨y,h1,_⟩:=here j (by omega)
    simp [xs,hj,h1]
   have hxs:∀y∈xs,scal y=true:=by
    intro y hy
    obtain ⟨j,hj⟩:=List.getElem?_of_mem hy
    have hlt:j<len*P.cellsOf e:=by have:=(List.getElem?_eq_some_iff.1 hj).1;omega
    obtain ⟨z,h1,h2⟩:=here j (by omega)
    rw [hxg j hlt,h1] at hj
    cases hj
    exact h2
   have hsize:a.off+cap*P.cellsOf e≤c.size:=by
    have hpos':0<cap*P.cellsOf e:=Nat.mul_pos (by omega) hesz
    obtain ⟨y,h1,_⟩:=here (cap*P.cellsOf e-1) (by omega)
    have:=(Array.getElem?_eq_some_iff.1 h1).1
    omega
   obtain ⟨H',hro',hle⟩:=HR.addRo hro (r:=⟨a.block,a.off,e,P.cellsOf e,c.size⟩) rfl (.inr ⟨e,xs,rfl⟩) ⟨rfl,c,tt,fr,hcell,rfl,fun j y hj=>by
    have hlt:j<len*P.cellsOf e:=by have:=(List.getElem?_eq_some_iff.1 hj).1;omega
    rw [hxg j hlt] at hj
    obtain ⟨z,h1,h2⟩:=here j (by omega)
    rw [h1] at hj
    cases hj
    exact ⟨scal.cell h2,_,h1,scal.self h2 _⟩⟩
   refine ⟨_,[.ro e xs],sl e h.length 0 len,len,xs,hle,H',hro',?_,rfl,.inr ⟨_,rfl,.inr (by simp [objCells])⟩,hxl,hxs,?_⟩
   ·obtain ⟨ab,ao,asz⟩:=a
    simp only at hspot
    subst hspot
    exact VRel.slice (ρ:=ρ.add h.length ⟨ab,ao,e,P.cellsOf e,c.size⟩) (i:=h.length) (o:=0) (n:=len) (o':=ao) (c':=cap) (r:=⟨ab,ao,e,P.cellsOf e,c.size⟩) (by simp [RMap.add]) (.inl rfl) hl hm hsize
   ·intro i hi
    obtain ⟨cs,y,h1,h2⟩:=each i (by omega)
    refine ⟨n,y,?_⟩
    have hcl:=(flat n cs y h2).1
    have hmul:(i+1)*P.cellsOf e≤len*P.cellsOf e:=Nat.mul_le_mul_right _ hi
    rw [Nat.add_mul,Nat.one_mul] at hmul
    have:(xs.drop (i*P.cellsOf e)).take (P.cellsOf e)=cs:=by
     apply List.ext_getElem?
     intro j
     rw [List.getElem?_take]
     by_cases hj:j<P.cellsOf e
     ·rw [if_pos hj,List.getElem?_drop,hxg _ (by omega),get i cs h1 j hj]
     ·rw [if_neg hj,List.getElem?_eq_none (by omega)]
    rw [this]
    exact h2

theorem trodAll_below (hl:laidOutB P=true) {W':World} (hb:Below W.heap.size W W'):∀{ts:List TypeId} {vs:List Value} {ds:List (DataW H)} {p:List MemPlace},(∀t∈ts,P.readableRec t=true∧t<P.types.size)→
  DataW.TrodAll enc P W 0 (fun _=>true) true ts vs ds p→(∀x∈p,x.block<W.heap.size)→DataW.TrodAll enc P W' 0 (fun b=>decide (b<W.heap.size)) true ts vs ds p
 | [],vs,ds,p,_,h,_=>by
  obtain ⟨rfl,rfl,rfl⟩:=trodAll_nil h
  exact trodAll_mk0
 | t::ts,vs,ds,p,hr,h,hlt=>by
  obtain ⟨v,vs',d,ds',a,b,rfl,rfl,rfl,h1,h2⟩:=trodAll_cons h
  exact trodAll_cons_mk (Below.trod hl (hr t (by simp)).1 (hr t (by simp)).2 h1 hb fun x hx=>hlt x (by simp [hx]))
   (trodAll_below hl hb (fun t ht=>hr t (by simp [ht])) h2 fun x hx=>hlt x (by simp [hx]))

theorem post_law (hl:laidOutB P=true) {f:Func} {s:ChangeSpec} {t4:TypeId} {W':World} {args:Array Value} {ds gs:List (DataW H)} {before:List MemPlace} (hW:DataW.Whole enc P f.params.toList s.vars false W args.toList ds gs before)
  (hv:s.vars=[]) (ht4:P.underlying t4=some .bool) (hr:f.resultTypes=#[t4]) (hfn:∀gs',gs'=[]→s.fn H (ds++gs')={ results:=[.lit (.bool true)],args:=ds })
  (hread:∀t∈f.params.toList,P.readableRec t=true∧t<P.types.size) (hb:Below W.heap.size W W'):s.post enc P f false true false false W args (.bool true) W':=by
 have hW':=hW
 obtain ⟨p,q,hA,hV,rfl,_,_⟩:=hW
 rw [hv] at hV
 obtain ⟨rfl,rfl⟩:=trodVars_none hV
 have hlt:∀x∈p,x.block<W.heap.size:=fun x hx=>hW'.lt x (by simp [hx])
 have e:=hfn [] rfl
 refine ⟨ds,[],p++[],[],p,[],hW',?_,?_,?_,hb.frame _,fun h=>by cases h⟩
 ·rw [e,hr]
  exact trodAll_mk1 (shut_bool ht4 true)
 ·rw [e]
  exact trodAll_below hl hb hread hA hlt
 ·rw [e,hv]
  rfl

end
end Go.Sim


namespace Go.Sim

theorem rem_nat (k:IntKind) (a b:Nat) (hb:b≠0):iBin .rem (.int k (a:Int)) (.int k (b:Int))=some (.int k ((a%b:Nat):Int)):=by
 have h:¬((b:Int)=0):=by omega
 simp only [iBin,iInt,if_true,if_neg h]
 congr 2

structure NS (h:Heap) (v:Value) (k:IntKind) (ns:List Int):Prop where
 len:iLenSl v=some (I ns.length)
 get:∀i (hi:i<ns.length),∃b o,iAdrSl 1 v (I i)=some (pt b o)∧iLoad false 1 h (pt b o)=some (.int k ns[i])
 le:ns.length≤maxLen

theorem load_EX {h h':Heap} (k:EX h h') {agg:Bool} {n:Nat} {a v:Value} (hl:iLoad agg n h a=some v):iLoad agg n h' a=some v:=by
 unfold iLoad at hl⊢
 split at hl
 ·rename_i i o
  cases hc:objCells h i with
  | none=>rw [hc] at hl;cases hl
  | some xs=>rw [hc] at hl;rw [k.cells hc];exact hl
 ·cases hl

theorem NS.mono {h h':Heap} {v:Value} {k:IntKind} {ns:List Int} (e:EX h h') (p:NS h v k ns):NS h' v k ns:=
 ⟨p.len,fun j hj=>let ⟨i,o,a,b⟩:=p.get j hj;⟨i,o,a,load_EX e b⟩,p.le⟩

theorem NS.nil (h:Heap) (k:IntKind):NS h (.slice none 0 0) k []:=⟨rfl,fun i hi=>by simp at hi,by simp⟩

theorem NS.sl {h:Heap} {e:TypeId} {i:Nat} {k:IntKind} {ns:List Int} (hc:ns=[]∨objCells h i=some (ns.map (Value.int k))) (hl:ns.length≤maxLen):NS h (sl e i 0 ns.length) k ns:=by
 refine ⟨rfl,fun j hj=>⟨i,j,?_,?_⟩,hl⟩
 ·have:(0:Int)≤(j:Int)∧(j:Int)<(ns.length:Int):=by omega
  simp [Go.Sim.sl,iAdrSl,this]
 ·have hc:=hc.resolve_left (by rintro rfl;simp at hj)
  simp [iLoad,hc,iPart,hj]

section
open Go.ChangeShapes
variable {P : Program} {W : World} {ρ : RMap} {h : Heap} {H : Type} {enc : TypeId × Value → H}

end
end Go.Sim


namespace Go.Sim

def stepN (P:Program) (o:IOp) (f:Nat→Value) (h:Heap) (K:Value→Heap→Prop):Prop:=
 match o with
 | .e (.next it)=>∃l,nexts h (ev f it)=some l∧∀p∈l,K p.1 p.2
 | o=>stepK P o f h K

def gopsN (P:Program):List GOper→((Nat→Value)→Heap→Prop)→(Nat→Value)→Heap→Prop
 | [],K,f,h=>K f h
 | o::os,K,f,h=>stepN P o.op f h fun v h'=>gopsN P os K (updO f o.dst v) h'

def opsN (P:Program) (g:Option (Nat×Bool)) (l:List GOper) (K:(Nat→Value)→Heap→Prop) (f:Nat→Value) (h:Heap):Prop:=
 match g with
 | none=>gopsN P l K f h
 | some (s,b)=>opsK P (some (s,b)) l K f h

noncomputable def iwpN (P:Program) (c:ICode):Kont→(Nat→Value)→Heap→Prop:=
 ICode.rec (motive:=fun _=>Kont→(Nat→Value)→Heap→Prop)
  (fun K f h=>K .normal f h)
  (fun l K f h=>gdops P l 0 [] [] (K .normal) f h)
  (fun g l K f h=>opsN P g l (K .normal) f h)
  (fun _ _ ia ib K f h=>ia (thenK (ib K) K) f h)
  (fun ls _ ic K f h=>cutK (ic K) ls (ls.map f) h)
  (fun c _ _ ia ib K f h=>condK (ev f c) (ia K f h) (ib K f h))
  (fun id _ ic K f h=>ic (inBlockK id K) f h)
  (fun ks ls _ ic K f h=>loopK (ls.map f) h fun L xs hx=>ic (thenK (fun f' h''=>ks.map f'=ks.map f∧L (ls.map f') h'') K) (ofl (ks++ls) (ks.map f++xs)) hx)
  (fun id K f h=>K (.exit id) f h)
  (fun K f h=>K .ret f h)
  (fun g ls c K f h=>rangeK P (ev f g) ls (ls.map f) c h (K .normal f)) c

section
variable {P : Program} {w : World} {ρ : RMap} {h : Heap}

theorem nexts_sound (H:HRel P ρ h w) {it it':Value} {l:List (Value×Heap)} (hn:nexts h it=some l) (hv:VRel ρ it it') (ty:TypeId):
  ∃p∈l,∃v' w',(Instr.next it' false ty).run P w=.ok v' w'∧VRel ρ p.1 v'∧HRel P ρ p.2 w'∧Tr ρ h w ρ p.2 w':=by
 unfold nexts at hn
 split at hn
 ·rename_i j
  split at hn
  ·rename_i i since seen last hit
   split at hn
   ·rename_i g c es hes
    split at hn
    ·cases hn
    rename_i hal
    simp only [Option.some.injEq] at hn
    cases hv with
    | ptr hr=>
     rename_i r
     obtain ⟨o,ho,hrel⟩:=H.obj j r hr
     rw [hit] at ho
     cases ho
     obtain ⟨hsh,rm,hrm,hb⟩:=hrel
     obtain ⟨ents,hm,E⟩:=H.entsG hrm hes
     rw [hsh]
     -- the entries,one by one
     have hmap:ents.toList.map (fun e=>e.born)=es.map fun e=>e.1:=by
      apply List.ext_getElem?
      intro q
      simp only [List.getElem?_map]
      by_cases hq:q<es.length
      ·have he:=List.getElem?_eq_getElem hq
       generalize es[q]=x at he
       obtain ⟨b,k,v⟩:=x
       obtain ⟨_,en,g2,g3,g4,g5⟩:=E.get q b k v he
       rw [he,Array.getElem?_toList,g2]
       simp [g4]
      ·have h1:ents.toList[q]?=none:=List.getElem?_eq_none (by rw [Array.length_toList,E.size];omega)
       rw [h1,List.getElem?_eq_none (by omega)];rfl
     have hz:∀en∈ents.toList,∃e∈es,e.1=en.born∧e.2.1=en.key∧VRel ρ e.2.2 en.val:=by
      intro en hen
      obtain ⟨q,hq,e'⟩:=List.mem_iff_getElem.1 hen
      have:ents[q]?=some en:=by rw [←Array.getElem?_toList,List.getElem?_eq_getElem hq,e']
      obtain ⟨v,q1,_,q3⟩:=E.inv this
      exact ⟨_,List.mem_of_getElem? q1,rfl,rfl,q3⟩
     have hz':∀e∈es,∃en∈ents.toList,e.1=en.born:=by
      intro e he
      have:e.1∈es.map fun e=>e.1:=List.mem_map.2 ⟨e,he,rfl⟩
      rw [←hmap] at this
      obtain ⟨en,h1,h2⟩:=List.mem_map.1 this
      exact ⟨en,h1,h2.symm⟩
     -- what the model weighs
     let left:=ents.filter fun e=> !(seen.toArray.contains e.born)
     let old:=left.filter fun e=>decide (e.born<since)
     let new:=left.filter fun e=>decide (e.born≥since)
     let cand:Array (Option MapEntry):=(if old.isEmpty then #[none] else #[])++(old++new).map some
     have hbad:(!seen.toArray.isEmpty&& !ents.isEmpty&&ents.all fun e=>decide (e.born≥last))=false:=by
      rw [Bool.eq_false_iff]
      intro hx
      apply hal
      simp only [Bool.and_eq_true] at hx⊢
      obtain ⟨⟨x1,x2⟩,x3⟩:=hx
      refine ⟨⟨by simpa using x1,?_⟩,?_⟩
      ·have:ents.size≠0:=by simpa [Array.isEmpty] using x2
       rw [E.size] at this
       simpa [List.isEmpty_iff] using this
      ·rw [List.all_eq_true]
       intro e he
       obtain ⟨en,h1,h2⟩:=hz' e he
       rw [Array.all_eq_true'] at x3
       have:=x3 en (by simpa using h1)
       rw [h2]
       exact this
     have hpos:0<cand.size:=by
      simp only [cand]
      by_cases ho:old.isEmpty=true
      ·rw [if_pos ho];simp;omega
      ·rw [if_neg ho]
       have:old.size≠0:=by simpa [Array.isEmpty] using ho
       simp;omega
     have hget:(getObj r.blk).run P w=.ok (.mapIter (some rm.blk) since seen.toArray last) w:=by simp [getObj,Sem.run,hb]
     have hgetm:(getObj rm.blk).run P w=.ok (.map ents c) w:=by simp [getObj,Sem.run,hm]
     obtain ⟨q,w1,hq,hch,hw1,hT1⟩:∃q w1,q<cand.size∧(choose (.mapNext cand.size)).run P w=.ok q w1∧(w1.heap=w.heap∧HRel P ρ h w1)∧Tr ρ h w ρ h w1:=by
      by_cases hfo:(Question.mapNext cand.size).forced=true
      ·exact ⟨0,w,hpos,by simp [choose,Sem.run,hfo],⟨rfl,H⟩,Tr.refl H⟩
      ·exact ⟨(w.tape w.drawn (.mapNext cand.size))%cand.size,{ w with drawn:=w.drawn+1 },Nat.mod_lt _ hpos,by simp [choose,Sem.run,hfo,Question.cut],⟨rfl,H.drew _⟩,Tr.drew H _⟩
     have hold:(es.filter fun e=> !seen.contains e.1).filter (fun e=>decide (e.1<since))=[]↔old.isEmpty=true:=by
      constructor
      ·intro h0
       simp only [old,left]
       rw [Array.isEmpty_iff_size_eq_zero]
       apply Classical.byContradiction
       intro hne
       obtain ⟨en,hen⟩:∃en,en∈(Array.filter (fun e=>decide (e.born<since)) (Array.filter (fun e=> !(seen.toArray.contains e.born)) ents)):=⟨_,Array.getElem_mem (i:=0) (by omega)⟩
       rw [Array.mem_filter,Array.mem_filter] at hen
       obtain ⟨⟨e1,e2⟩,e3⟩:=hen
       obtain ⟨e,he,g1,_,_⟩:=hz en (by simpa using e1)
       have:e∈(es.filter fun e=> !seen.contains e.1).filter (fun e=>decide (e.1<since)):=by
        rw [List.mem_filter,List.mem_filter,g1]
        exact ⟨⟨he,by simpa using e2⟩,e3⟩
       rw [h0] at this
       cases this
      ·intro h0
       rw [Array.isEmpty_iff_size_eq_zero] at h0
       rw [List.filter_eq_nil_iff]
       intro e he hlt
       rw [List.mem_filter] at he
       obtain ⟨en,h1,h2⟩:=hz' e he.1
       have:en∈old:=by
        simp only [old,left]
        rw [Array.mem_filter,Array.mem_filter,←h2]
        exact ⟨⟨by simpa using h1,by simpa using he.2⟩,hlt⟩
       rw [Array.eq_empty_of_size_eq_zero h0] at this
       simp at this
     have hbw:w1.heap[r.blk]?=some (.mapIter (some rm.blk) since seen.toArray last):=by rw [hw1.1];exact hb
     obtain ⟨cq,hcq⟩:∃cq,cand[q]?=some cq:=⟨_,Array.getElem?_eq_getElem hq⟩
     have hrun:∀{v' w'},(match cand[q]? with
       | some (some e)=>(do setObj r.blk (.mapIter (some rm.blk) since (seen.toArray.push e.born) c);pure (.tuple #[.bool true,e.key,e.val]):Sem Value)
       | some none=>pure (.tuple #[.bool false])
       | none=>stuck "Next: no such candidate").run P w1=.ok v' w'→(Instr.next (.pointer (some ⟨r.blk,0+0,none⟩)) false ty).run P w=.ok v' w':=by
      intro v' w' hx
      unfold Instr.next
      simp only [Nat.add_zero,Sem.run_bind,hget,Result.andThen_ok,hgetm,hbad,Bool.false_eq_true,if_false,Sem.run_pure]
      show ((choose (.mapNext cand.size)).run P w).andThen _=_
      rw [hch]
      exact hx
     cases cq with
     | none=>
      -- it is over
      have ho:old.isEmpty=true:=by
       apply Classical.byContradiction
       intro ho
       have:(none:Option MapEntry)∈cand:=Array.mem_of_getElem? hcq
       simp only [cand,if_neg ho] at this
       simp at this
      refine ⟨(.tuple #[.bool false],h),?_,.tuple #[.bool false],w1,hrun (by rw [hcq];rfl),VRel.tupleL (.cons (.bool _) .nil),hw1.2,hT1⟩
      rw [←hn]
      have:=hold.2 ho
      refine List.mem_append_left _ ?_
      rw [this];simp
     | some en=>
      have hen:en∈old++new:=by
       have:(some en:Option MapEntry)∈cand:=Array.mem_of_getElem? hcq
       simp only [cand] at this
       rcases Array.mem_append.1 this with h1 | h1
       ·split at h1 <;> simp at h1
       ·obtain ⟨e2,h2,h3⟩:=Array.mem_map.1 h1
        cases h3
        exact h2
      have hen2:en∈ents.toList∧seen.contains en.born=false:=by
       rcases Array.mem_append.1 hen with h1 | h1
       ·simp only [old,left] at h1
        rw [Array.mem_filter,Array.mem_filter] at h1
        exact ⟨by simpa using h1.1.1,by simpa using h1.1.2⟩
       ·simp only [new,left] at h1
        rw [Array.mem_filter,Array.mem_filter] at h1
        exact ⟨by simpa using h1.1.1,by simpa using h1.1.2⟩
      obtain ⟨e,he,g1,g2,g3⟩:=hz en hen2.1
      have hlt:=(List.getElem?_eq_some_iff.1 hit).1
      have hmut:isMut h j:=.inr (.inr (.inr (.inr (.inr ⟨_,_,_,_,hit⟩))))
      have sb:=SetBlock.obj hbw (.mapIter (some rm.blk) since (seen.toArray.push en.born) c)
      obtain ⟨q1,q2⟩:=hw1.2.set (o:=.iter i since (seen++[e.1]) c) hr hmut sb ⟨hsh,rm,hrm,by rw [sb.here,g1];simp⟩
      have hset:(setObj r.blk (.mapIter (some rm.blk) since (seen.toArray.push en.born) c)).run P w1=.ok () { w1 with heap:=w1.heap.setIfInBounds r.blk (.mapIter (some rm.blk) since (seen.toArray.push en.born) c) }:=by
       simp [setObj,Sem.run,hbw]
      refine ⟨(.tuple #[.bool true,e.2.1,e.2.2],h.set j (.iter i since (seen++[e.1]) c)),?_,.tuple #[.bool true,en.key,en.val],_,hrun (by rw [hcq];simp only [Sem.run_bind,hset,Result.andThen_ok,Sem.run_pure]),?_,q1,hT1.trans q2⟩
      ·rw [←hn]
       refine List.mem_append_right _ (List.mem_map.2 ⟨e,?_,rfl⟩)
       have hl:e∈es.filter fun e=> !seen.contains e.1:=by
        rw [List.mem_filter,g1]
        exact ⟨he,by simp at hen2⊢;exact hen2.2⟩
       by_cases hlt2:e.1<since
       ·exact List.mem_append_left _ (List.mem_filter.2 ⟨hl,by simpa using hlt2⟩)
       ·exact List.mem_append_right _ (List.mem_filter.2 ⟨hl,by simpa using Nat.le_of_not_lt hlt2⟩)
      ·rw [g2]
       have hkr:VRel ρ en.key en.key:=by
        have hk:gkIs g en.key=true:=by
         obtain ⟨q',hq',e'⟩:=List.mem_iff_getElem.1 hen2.1
         have:ents[q']?=some en:=by rw [←Array.getElem?_toList,List.getElem?_eq_getElem hq',e']
         exact (E.inv this).choose_spec.2.1
        have ints:∀{kd:IntKind} {v:Value},isIntV kd v=true→VRel ρ v v∧isCell v=true:=by
         intro kd v hv
         cases v <;> simp [isIntV] at hv
         exact ⟨.int _ _,rfl⟩
        cases hkey:en.key with
        | int kd n=>exact .int _ _
        | string s=>exact .string _
        | agg cs=>
         rw [hkey] at hk
         cases g with
         | ints n kd=>
          simp only [gkIs,Bool.and_eq_true,List.all_eq_true] at hk
          refine .agg rfl (fun x hx=>(ints (hk.2 x hx).1).2) (fun k x x' hx hx'=>?_)
          rw [hx] at hx'
          cases hx'
          exact (ints (hk.2 x (by rw [←Array.getElem?_toList] at hx;exact List.mem_of_getElem? hx)).1).1
         | int _=>simp [gkIs,isIntV] at hk
         | str=>simp [gkIs] at hk
        | _=>rw [hkey] at hk;cases g <;> simp [gkIs,isIntV] at hk
       exact VRel.tupleL (.cons (.bool _) (.cons hkr (.cons g3 .nil)))
   ·cases hn
  ·cases hn
 ·cases hn

end
end Go.Sim


namespace Go.Sim

section
variable {P : Program} {N : Nat}

theorem compE_next {op:Op} {it:Operand} (h:compE P op=some (.next it)):op=.next it false:=by
 unfold compE at h
 split at h
 case h_13=>simp at h;subst h;rfl
 all_goals exfalso
 all_goals repeat' (split at h)
 all_goals first | (cases h;done) | (simp at h;done) | (simp only [Option.map_eq_some_iff] at h;obtain ⟨_,_,h⟩:=h;cases h;done) | skip

theorem opStepN {o:Oper} {io:IOp} {f:Nat→Value} {h:Heap} {K:Value→Heap→Prop} (hc:compOp P o.op=some io) (hok:o.op.operands.all opdOk=true) (hs:stepN P io f h K):
  ∀R B ρ a w,Rel P N B ρ f h a w→∀(next:Act→World→Prop) (Q:Exit→Act→World→Prop),
   (∀v h' ρ' v' w',K v h'→VRel ρ' v v'→HRel P ρ' h' w'→Tr ρ h w ρ' h' w'→next (a.put o.dst v') w')→o.wpIn (FR R) 0 P a w next Q:=by
 have det:stepK P io f h K→∀R B ρ a w,Rel P N B ρ f h a w→∀(next:Act→World→Prop) (Q:Exit→Act→World→Prop),
   (∀v h' ρ' v' w',K v h'→VRel ρ' v v'→HRel P ρ' h' w'→Tr ρ h w ρ' h' w'→next (a.put o.dst v') w')→o.wpIn (FR R) 0 P a w next Q:=by
  intro hs R B ρ a w Rr next Q hn
  obtain ⟨v,h',st,hk⟩:=opStep_of (N:=N) hc hok hs
  exact st R B ρ a w Rr next Q fun ρ' v' w' h1 h2 h3=>hn v h' ρ' v' w' hk h1 h2 h3
 cases io with
 | e eo=>
  cases eo with
  | next it=>
   obtain ⟨l,hl,hk⟩:=hs
   rcases compOp_inv hc with ⟨po,e,_⟩ | ⟨lo,e,_⟩ | ⟨eo,e,he⟩ | ⟨g,args,at_,_,_,e⟩ | ⟨x,args,at_,_,e⟩
   ·cases e
   ·cases e
   ·cases e
    have hop:=compE_next he
    intro R B ρ a w Rr next Q hn
    rw [hop] at hok
    simp [Op.operands] at hok
    obtain ⟨p,hp,v',w',h1,h2,h3,h4⟩:=nexts_sound Rr.heap hl (Rr.ev hok) o.type
    exact wpIn_val (compOp_nd hc) (v:=v') (w':=w') (by simp [execOp,hop,h1]) (hn p.1 p.2 ρ v' w' (hk p hp) h2 h3 h4)
   ·cases e
   ·cases e
  | _=>exact det hs
 | _=>exact det hs

def ORunN (P:Program) (N:Nat) (ops:Array Oper) (idx:List Nat) (f:Nat→Value) (h:Heap) (K:(Nat→Value)→Heap→Prop):Prop:=
 ∀S B ρ a w,Rel P N B ρ f h a w→∀Q:Exit→Act→World→Prop,(∀f' h' ρ' a' w',K f' h'→Rel P N B ρ' f' h' a' w'→Tr ρ h w ρ' h' w'→Q .normal a' w')→wpOpsIn (FR S) 0 P ops Q idx a w

theorem ORun.n {ops:Array Oper} {idx:List Nat} {f f':Nat→Value} {h h':Heap} {K:(Nat→Value)→Heap→Prop} (r:ORun P N ops idx f h f' h') (hk:K f' h'):ORunN P N ops idx f h K:=
 fun S B ρ a w R Q hq=>r S B ρ a w R Q fun ρ' a' w' R' T=>hq f' h' ρ' a' w' hk R' T

theorem ORunN.append {ops:Array Oper} {i j:List Nat} {f:Nat→Value} {h:Heap} {K K':(Nat→Value)→Heap→Prop} (a:ORunN P N ops i f h K) (b:∀f₁ h₁,K f₁ h₁→ORunN P N ops j f₁ h₁ K'):ORunN P N ops (i++j) f h K':=by
 intro S B ρ ac w R Q hq
 refine wpOpsIn_append (a S B ρ ac w R _ ?_)
 intro f₁ h₁ ρ₁ a₁ w₁ hk R₁ T
 exact b f₁ h₁ hk S B ρ₁ a₁ w₁ R₁ Q fun f' h' ρ' a' w' hk' R' T'=>hq f' h' ρ' a' w' hk' R' (T.trans T')

theorem ORunN.weaken {ops:Array Oper} {idx:List Nat} {f f₁:Nat→Value} {h:Heap} {K:(Nat→Value)→Heap→Prop} (hw:weaker f₁ f) (hr:ORunN P N ops idx f₁ h K):ORunN P N ops idx f h K:=
 fun S B ρ a w R=>hr S B ρ a w (R.weaken hw)

theorem gopsN_sound {ops:Array Oper}:∀{l:List GOper} {os:List Oper} {i:Nat} {K:(Nat→Value)→Heap→Prop} {f:Nat→Value} {h:Heap},(∀(k:Nat) (o:Oper),os[k]?=some o→ops[i+k]?=some o)→compList P N ops os=some (flat1 none l)→gopsN P l K f h→
  ORunN P N ops (List.range' i os.length) f h K
 | [],os,i,K,f,h,_,hc,hi=>by
  cases os with
  | nil=>exact fun S B ρ a w R Q hq=>hq f h ρ a w hi R (Tr.refl R.heap)
  | cons o os=>obtain ⟨x,xs,_,_,he⟩:=compList_inv hc;simp [flat1] at he
 | g::l,os,i,K,f,h,hops,hc,hi=>by
  cases os with
  | nil=>simp [compList,flat1] at hc
  | cons o os=>
   obtain ⟨x,xs,h1,h2,he⟩:=compList_inv hc
   simp only [flat1,List.map_cons,List.cons.injEq] at he
   obtain ⟨rfl,rfl⟩:=he
   obtain ⟨q1,q2,q3,q4,q5⟩:=compOper_inv h1
   have ho:ops[i]?=some o:=hops 0 o rfl
   have hops':∀(k:Nat) (o':Oper),os[k]?=some o'→ops[i+1+k]?=some o':=by
    intro k o' hk
    have:=hops (k+1) o' (by simpa using hk)
    rw [show i+(k+1)=i+1+k by omega] at this
    exact this
   intro S B ρ a w R Q hq
   rw [List.length_cons,List.range'_succ]
   simp only [wpOpsIn,ho]
   rw [if_pos (by rw [wanted_eq q4 R trivial];rfl)]
   have hst:stepN P g.op f h fun v h'=>gopsN P l K (updO f g.dst v) h':=hi
   refine opStepN q3 q1 hst S B ρ a w R _ _ ?_
   intro v h' ρ' v' w' hk hv H T
   have q5':g.dst=o.dst:=q5
   rw [q5'] at hk
   exact gopsN_sound hops' h2 hk S B ρ' _ w' (R.putO q2 T hv H) Q fun f'' h'' ρ'' a'' w'' hk'' R'' T'=>hq f'' h'' ρ'' a'' w'' hk'' R'' (T.trans T')

theorem cutO_iwpN {ls:List Nat} {c:ICode} {K:Exit→(Nat→Value)→Heap→Prop} {f:Nat→Value} {h:Heap} (hi:iwpN P (cutO ls c) K f h):∃f',weaker f' f∧iwpN P c K f' h:=by
 cases ls with
 | nil=>exact ⟨f,fun _=>.inl rfl,hi⟩
 | cons l ls=>exact ⟨_,ofl_weaker f (l::ls),hi⟩

theorem rcodeN_sound {ops:Array Oper}:∀{gs:List (Option (Nat×Bool)×List GOper)} {hs:Hints} {os:List Oper} {i:Nat} {K:Exit→(Nat→Value)→Heap→Prop} {f:Nat→Value} {h:Heap},
  (∀(k:Nat) (o:Oper),os[k]?=some o→ops[i+k]?=some o)→compList P N ops os=some (flatG gs)→(∀g l,(g,l)∈gs→∀o∈l,leaves g o.dst=true)→iwpN P (rcode gs hs).1 K f h→
  ORunN P N ops (List.range' i os.length) f h (K .normal):=by
 intro gs
 induction gs with
 | nil=>
  intro hs os i K f h hops hc _ hi
  cases os with
  | nil=>exact fun S B ρ a w R Q hq=>hq f h ρ a w hi R (Tr.refl R.heap)
  | cons o os=>
   obtain ⟨x,xs,_,_,he⟩:=compList_inv hc
   simp [flatG] at he
 | cons a gs ih=>
  obtain ⟨g,l⟩:=a
  intro hs os i K f h hops hc hl hi
  simp only [flatG] at hc
  obtain ⟨os0,os1,rfl,c0,c1⟩:=compList_append hc
  have hops0:∀(k:Nat) (o:Oper),os0[k]?=some o→ops[i+k]?=some o:=by
   intro k o hk
   refine hops k o ?_
   rw [List.getElem?_append_left (List.getElem?_eq_some_iff.1 hk).1]
   exact hk
  have hops1:∀(k:Nat) (o:Oper),os1[k]?=some o→ops[i+os0.length+k]?=some o:=by
   intro k o hk
   rw [Nat.add_assoc]
   refine hops _ o ?_
   rw [List.getElem?_append_right (by omega)]
   simpa using hk
  have first:∀{K:(Nat→Value)→Heap→Prop},opsN P g l K f h→ORunN P N ops (List.range' i os0.length) f h K:=by
   intro K hk
   cases g with
   | none=>exact gopsN_sound hops0 c0 hk
   | some sb=>
    obtain ⟨f',h',r1,r2⟩:=iops_sound hops0 c0 (opsK_iops (fun o ho=>hl _ l (by simp) o ho) hk)
    exact r1.n r2
  have both:∀{K₁:(Nat→Value)→Heap→Prop},ORunN P N ops (List.range' i os0.length) f h K₁→(∀f₁ h₁,K₁ f₁ h₁→ORunN P N ops (List.range' (i+os0.length) os1.length) f₁ h₁ (K .normal))→ORunN P N ops (List.range' i (os0++os1).length) f h (K .normal):=by
   intro K₁ a b
   rw [List.length_append,←List.range'_append_1]
   exact a.append b
  have rest:∀{hs:Hints} {f₁:Nat→Value} {h₁:Heap},iwpN P (rcode gs hs).1 K f₁ h₁→ORunN P N ops (List.range' (i+os0.length) os1.length) f₁ h₁ (K .normal):=
   fun hk=>ih hops1 c1 (fun g' l' hm=>hl g' l' (by simp [hm])) hk
  cases gs with
  | nil=>
   have hone:iwpN P (.ops g l) K f h:=by
    cases hs <;> exact hi
   have r1:=first hone
   have h1:os1=[]:=by
    cases os1 with
    | nil=>rfl
    | cons o os=>obtain ⟨x,xs,_,_,he⟩:=compList_inv c1;simp [flatG] at he
   subst h1
   simpa using r1
  | cons b gs=>
   cases hs with
   | nil=>exact both (first (K:=fun f h=>iwpN P (rcode (b::gs) []).1 K f h) hi) fun f₁ h₁ r2=>rest r2
   | cons h0 hs=>
    refine both (first (K:=fun f h=>iwpN P (cutO h0 (rcode (b::gs) hs).1) K f h) hi) fun f₁ h₁ r2=>?_
    obtain ⟨f₂,hw,r3⟩:=cutO_iwpN r2
    exact (rest r3).weaken hw

def PostN (P:Program) (N B:Nat) (ρ:RMap) (h:Heap) (w:World) (K:Kont):Exit→Act→World→Prop:=
 fun e a' w'=>∃f' h' ρ',K e f' h'∧Rel P N B ρ' f' h' a' w'∧Tr ρ h w ρ' h' w'

def RunN (P:Program) (N:Nat) (out:Bool) (c:Code) (f:Nat→Value) (h:Heap) (K:Kont):Prop:=
 ∀S,(out=true→S=none)→∀B ρ a w,Rel P N B ρ f h a w→c.wpIn (FR S) 0 P (PostN P N B ρ h w K) a w

def LRunN (P:Program) (N:Nat) (out:Bool) (c:Code) (f:Nat→Value) (h:Heap) (K:Kont):Prop:=
 ∀S,(out=true→S=none)→∀B ρ a w,Rel P N B ρ f h a w→loopWp S P c (PostN P N B ρ h w K) a w

variable {out : Bool}

theorem Run.n {c:Code} {f f':Nat→Value} {h h':Heap} {e:Exit} {K:Kont} (r:Run P N out c f h e f' h') (hk:K e f' h'):RunN P N out c f h K:=by
 intro S hS B ρ a w R
 refine wpIn_mono (r S hS B ρ a w R) ?_
 rintro e' a' w' ⟨rfl,ρ',R',T⟩
 exact ⟨f',h',ρ',hk,R',T⟩

theorem PostN.trans {B:Nat} {ρ ρ₁:RMap} {h h₁:Heap} {w w₁:World} {K:Kont} (T:Tr ρ h w ρ₁ h₁ w₁):∀e' a' w',PostN P N B ρ₁ h₁ w₁ K e' a' w'→PostN P N B ρ h w K e' a' w':=by
 rintro e' a' w' ⟨f',h',ρ',hk,R,T'⟩
 exact ⟨f',h',ρ',hk,R,T.trans T'⟩

theorem RunN.weaken {c:Code} {f f₁:Nat→Value} {h:Heap} {K:Kont} (hw:weaker f₁ f) (hr:RunN P N out c f₁ h K):RunN P N out c f h K:=
 fun S hS B ρ a w R=>hr S hS B ρ a w (R.weaken hw)

theorem LRunN.weaken {c:Code} {f f₁:Nat→Value} {h:Heap} {K:Kont} (hw:weaker f₁ f) (hr:LRunN P N out c f₁ h K):LRunN P N out c f h K:=
 fun S hS B ρ a w R=>hr S hS B ρ a w (R.weaken hw)

theorem iwpN_sound {out:Bool}:∀{c:Code} {hs hs':Hints} {ic:ICode},compCode P N c hs=some (ic,hs')→(out=true∨noRange c=true)→∀{K:Kont} {f:Nat→Value} {h:Heap},iwpN P ic K f h→RunN P N out c f h K:=by
 intro c
 induction c with
 | skip=>
  intro hs hs' ic hc ho K f h hi
  simp [compCode] at hc
  obtain ⟨rfl,_⟩:=hc
  exact fun S hS B ρ a w R=>wpIn_skip ⟨f,h,ρ,hi,R,Tr.refl R.heap⟩
 | region id ops draw=>
  intro hs hs' ic hc ho K f h hi
  cases draw with
  | true=>
   simp only [compCode] at hc
   split at hc
   ·rename_i l hl
    split at hc
    ·rename_i hlv
     simp at hc
     obtain ⟨rfl,_⟩:=hc
     have hi':=gdops_idops (dleaves_of hlv) hi
     rw [dflatG_groupsOf] at hi'
     obtain ⟨f',h',r1,r2⟩:=idopsDF_sound (id:=id) hl hi'
     exact r1.n r2
    ·cases hc
   ·cases hc
  | false=>
   simp only [compCode] at hc
   split at hc
   ·rename_i l hl
    split at hc
    ·rename_i hlv
     simp only [Option.some.injEq] at hc
     have he:ic=(rcode (groupsOf l) hs).1:=by rw [hc]
     subst he
     have r1:=rcodeN_sound (i:=0) (os:=ops.toList) (ops:=ops) (fun k o hk=>by simpa using hk) (by rw [flatG_groupsOf];exact hl) (leaves_of hlv) hi
     intro S hS B ρ a w R
     refine wpIn_region ?_
     rw [List.range_eq_range']
     have r1':ORunN P N ops (List.range' 0 ops.size) f h (K .normal):=by simpa using r1
     refine r1' S B ρ a w R _ ?_
     intro f' h' ρ' a' w' hk R' T
     exact ⟨f',h',ρ',hk,R',T⟩
    ·cases hc
   ·simp at hc
    obtain ⟨rfl,_⟩:=hc
    exact (show False from hi).elim
 | seq x y ihx ihy=>
  intro hs hs' ic hc ho K f h hi
  have hox:out=true∨noRange x=true:=ho.imp id fun h=>by simp only [noRange,Bool.and_eq_true] at h;exact h.1
  have hoy:out=true∨noRange y=true:=ho.imp id fun h=>by simp only [noRange,Bool.and_eq_true] at h;exact h.2
  have both:∀{a b:ICode} {h0 hs1 hs2:Hints} {ls:List Nat},compCode P N x hs=some (a,h0)→compCode P N y hs1=some (b,hs2)→iwpN P (.seq a (cutO ls b)) K f h→RunN P N out (.seq x y) f h K:=by
   intro a b h0 hs1 hs2 ls ha hb hi
   have r1:=ihx ha hox hi
   intro S hS B ρ ac w R
   refine wpIn_seq (wpIn_mono (r1 S hS B ρ ac w R) ?_)
   rintro e' a' w' ⟨f₁,h₁,ρ₁,hk,R₁,T⟩
   cases e' with
   | normal=>
    obtain ⟨f₂,hw,r3⟩:=cutO_iwpN hk
    exact wpIn_mono (((ihy hb hoy r3).weaken hw) S hS B ρ₁ a' w' R₁) (PostN.trans T)
   | _=>exact ⟨f₁,h₁,ρ₁,hk,R₁,T⟩
  simp only [compCode] at hc
  split at hc
  ·rename_i a h0 hs1 ha
   split at hc
   ·rename_i b hs2 hb
    simp at hc
    obtain ⟨rfl,_⟩:=hc
    exact both ha hb hi
   ·cases hc
  ·rename_i a ha
   split at hc
   ·rename_i b hs2 hb
    simp at hc
    obtain ⟨rfl,_⟩:=hc
    exact both (ls:=[]) ha hb hi
   ·cases hc
  ·cases hc
 | cond c x y ihx ihy=>
  intro hs hs' ic hc ho K f h hi
  have hox:out=true∨noRange x=true:=ho.imp id fun h=>by simp only [noRange,Bool.and_eq_true] at h;exact h.1
  have hoy:out=true∨noRange y=true:=ho.imp id fun h=>by simp only [noRange,Bool.and_eq_true] at h;exact h.2
  simp only [compCode] at hc
  split at hc
  ·rename_i hok
   split at hc
   ·rename_i a hs1 ha
    split at hc
    ·rename_i b hs2 hb
     simp at hc
     obtain ⟨rfl,_⟩:=hc
     have hi:condK (ev f c) (iwpN P a K f h) (iwpN P b K f h):=hi
     simp only [condK] at hi
     split at hi
     ·rename_i t ht
      have go:RunN P N out (if t then x else y) f h K→RunN P N out (.cond c x y) f h K:=by
       intro r S hS B ρ ac w R
       have:=R.ev hok
       rw [ht] at this
       exact wpIn_cond this.bool_inv (r S hS B ρ ac w R)
      cases t
      ·simp at hi
       exact go (by simpa using ihy hb hoy hi)
      ·simp at hi
       exact go (by simpa using ihx ha hox hi)
     ·exact hi.elim
    ·cases hc
   ·cases hc
  ·cases hc
 | block id c ih=>
  intro hs hs' ic hc ho K f h hi
  simp only [compCode] at hc
  split at hc
  ·rename_i a hs1 ha
   simp at hc
   obtain ⟨rfl,_⟩:=hc
   have r1:=ih ha (ho.imp (fun h=>h) fun h=>h) (K:=inBlockK id K) hi
   intro S hS B ρ ac w R
   refine wpIn_block (wpIn_mono (r1 S hS B ρ ac w R) ?_)
   rintro e' a' w' ⟨f',h',ρ',hk,R',T⟩
   cases e' with
   | exit i=>
    simp only [Exit.inBlock,inBlockK] at hk⊢
    split <;> rename_i h
    ·rw [if_pos h] at hk;exact ⟨f',h',ρ',hk,R',T⟩
    ·rw [if_neg h] at hk;exact ⟨f',h',ρ',hk,R',T⟩
   | _=>exact ⟨f',h',ρ',hk,R',T⟩
  ·cases hc
 | loop c ih=>
  intro hs hs' ic hc ho K f h hi
  simp only [compCode] at hc
  split at hc
  ·rename_i ks ls hs1
   split at hc
   ·rename_i a hs2 ha
    simp at hc
    obtain ⟨rfl,_⟩:=hc
    obtain ⟨J,μ,h0,hround⟩:=hi
    have key:∀(n:Nat) (xs:List Value) (hh:Heap),μ xs hh=n→J xs hh→LRunN P N out c (ofl (ks++ls) (ks.map f++xs)) hh K:=by
     intro n
     induction n using Nat.strongRecOn with
     | _ n ihn=>
      intro xs hh hn hJ
      have r1:=ih ha (ho.imp (fun h=>h) fun h=>h) (hround xs hh hJ)
      intro S hS B ρ ac w R
      refine loopWp.round (wpIn_mono (r1 S hS B ρ ac w R) ?_)
      rintro e' a' w' ⟨f₁,h₁,ρ₁,hk,R₁,T⟩
      cases e' with
      | normal=>
       obtain ⟨hk,hJ1,hlt⟩:=hk
       have s1:=ihn (μ (ls.map f₁) h₁) (by omega) (ls.map f₁) h₁ rfl hJ1
       have s2:LRunN P N out c f₁ h₁ K:=s1.weaken (by rw [←hk];exact ofl_append f₁ ks ls _ rfl)
       exact (s2 S hS B ρ₁ a' w' R₁).mono (PostN.trans T)
      | _=>exact ⟨f₁,h₁,ρ₁,hk,R₁,T⟩
    have s1:LRunN P N out c f h K:=(key _ (ls.map f) h rfl h0).weaken (ofl_append f ks ls _ rfl)
    exact fun S hS B ρ ac w R=>(s1 S hS B ρ ac w R).wp
   ·cases hc
  ·cases hc
 | exit id=>
  intro hs hs' ic hc ho K f h hi
  simp [compCode] at hc
  obtain ⟨rfl,_⟩:=hc
  exact fun S hS B ρ a w R=>wpIn_exit ⟨f,h,ρ,hi,R,Tr.refl R.heap⟩
 | ret=>
  intro hs hs' ic hc ho K f h hi
  simp [compCode] at hc
  obtain ⟨rfl,_⟩:=hc
  exact fun S hS B ρ a w R=>wpIn_ret ⟨f,h,ρ,hi,R,Tr.refl R.heap⟩
 | rangeFunc g ps asg body=>
  intro hs hs' ic hc ho K f h hi
  have ho:out=true:=ho.resolve_right (by simp [noRange])
  subst ho
  simp only [compCode] at hc
  split at hc
  ·rename_i ls hs1
   split at hc
   ·rename_i hk
    simp at hc
    obtain ⟨rfl,_⟩:=hc
    simp only [Bool.and_eq_true] at hk
    obtain ⟨h',r1,r2⟩:=range_sound hk.1 hi
    exact r1.n r2
   ·cases hc
  ·cases hc
 | _=>intro hs hs' ic hc;simp [compCode] at hc

end

def icallN (P:Program) (F:FuncId) (args:List Value) (h:Heap) (K:Value→Heap→Prop):Prop:=
 ∀(ρ:RMap) (args':Array Value) (w:World),VsRel ρ args args'.toList→HRel P ρ h w→
  Calls P F args' w fun e w'=>∃v h' v' ρ',K v h'∧e=.returned v'∧VRel ρ' v v'∧HRel P ρ' h' w'∧Tr ρ h w ρ' h' w'

theorem icallN_intro {P:Program} {F:FuncId} {N:Nat} {ic:ICode} {rs:List IRes} {hs:Hints} {h:Heap} (hc:compFn P F hs=some (N,ic,rs)) {args:List Value} (ha:args.length≤N) {K:Value→Heap→Prop}
  (hi:iwpN P ic (bodyK rs K) (frame0 args) h):icallN P F args h K:=by
 unfold compFn at hc
 split at hc
 ·rename_i fn hf
  split at hc
  ·rename_i c hb
   split at hc
   ·rename_i ic' _ rs' h1 h2
    simp at hc
    obtain ⟨hN,rfl,rfl⟩:=hc
    have r1:=iwpN_sound (out:=true) h1 (.inl rfl) hi
    intro ρ args' w hv H
    refine callsIn_wide.1 (callsIn_of_wp_marks (F:=Fence.wide) (n:=0) hf hb trivial ?_ rfl)
    have hsz:args'.size=args.length:=by have:=hv.length;simpa using this.symm
    have R:Rel P fn.ntmps w.heap.size ρ (frame0 args) h { tmps:=args'++Array.replicate (fn.ntmps-args'.size) Go.undef,defers:=[] } w:=⟨by simp;omega,Nat.le_refl _,frame0_rel hv fn.ntmps,H⟩
    refine wpIn_mono (r1 none (fun _=>rfl) _ ρ _ w R) ?_
    rintro e' a' w' ⟨f',h',ρ',hk,R',T⟩
    have hret:(e'=.normal∨e'=.ret)∧retK rs' K f' h':=by
     cases e' <;> first | exact ⟨.inl rfl,hk⟩ | exact ⟨.inr rfl,hk⟩ | exact hk.elim
    obtain ⟨he,hret⟩:=hret
    obtain ⟨vs,hvs,hret⟩:=retL_inv hret
    have key:LeavesInM Fence.wide 0 P fn a'.tmps (fun e w'=>∃v h' v' ρ',K v h'∧e=.returned v'∧VRel ρ' v v'∧HRel P ρ' h' w'∧Tr ρ h w ρ' h' w') a'.defers .returning w':=by
     refine leaves_marks R'.defers R'.heap T ?_
     intro w'' H'' T''
     have R'':Rel P fn.ntmps 0 ρ' f' h' { a' with defers:=[] } w'':=⟨R'.size,Nat.zero_le _,R'.tmp,H''⟩
     obtain ⟨v',q1,q2⟩:=run_results R'' h2 hvs
     exact ⟨v',q1,pack vs,h',v',ρ',hret,rfl,q2,H'',T''⟩
    rcases he with rfl | rfl
    ·exact key
    ·exact key
   ·cases hc
  ·cases hc
 ·cases hc

end Go.Sim

