/-
  Part 2 of the texts behind a statement of this seat: Sim15, Sim17, Sim18, Sim18b, Sim18c, Sim18d, Sim18e, Sim18f, Sim19, Sim19b, Sim16, Sim20, Sim21, Sim23, Sp1, Sim24.
-/
import Derived.ProofKit
import Derived.OpenShut
import Derived.Test.YtlpdhfdpnakgdaaDoorSa1
open Array (replicate)
open Bool (and_eq_true or_eq_true)
open Classical (byContradiction choose_spec)
open List (all_eq_true cons_append getD getElem?_append_left getElem?_eq_getElem getElem?_set_ne getElem?_set_self length_cons map_cons mem_cons mem_cons_of_mem mem_of_getElem? mem_range nodup_cons range')
open Nat (add_zero le_of_not_lt le_refl zero_add)
open Option (bind_some getD_some map_some)
namespace Go.Sim
section
section
variable {P : Program} {N : Nat}
def cx (P:Program) (N:Nat) (ops:Array Oper) (fF:List Nat) (f:Nat->Value) (h:ad) (f':Nat->Value) (h':ad):Prop:=
 ∀S B ρ a w,bA P N B ρ f h a w->∀Q:Exit->Act->World->Prop,(∀ae a' w',bA P N B ae f' h' a' w'->Tr ρ h w ae h' w'->Q .normal a' w')->wpOpsIn (FR S) 0 P ops Q fF a w
theorem cx.nil {ops:Array Oper} {f:Nat->Value} {h:ad}:cx P N ops [] f h f h:=λ_ _ ρ a w R _ hq=>hq ρ a w R (Tr.refl R.heap)
theorem bA.ko {B:Nat} {ρ ae:ai} {f:Nat->Value} {h h':ad} {a:Act} {w w':World} (R:bA P N B ρ f h a w) {d:Option Nat} (hd:d.all (·<N)=true) {v v':Value} (T:Tr ρ h w ae h' w') (hv:af ae v v') (H:av P ae h' w'):
  bA P N B ae (ba f d v) h' (a.put d v') w':=by
 cases d with
 | none=>exact R.mono T H
 | some d=>exact R.put (by simpa using hd) T hv H
theorem cx.step {ops:Array Oper} {i:Nat} {fF:List Nat} {o:Oper} {f f':Nat->Value} {h h₁ h':ad} {v:Value} (ho:ops[i]?=some o) (hd:o.dst.all (·<N)=true)
  (hw:∀B ρ a w,bA P N B ρ f h a w->Region.wanted o (yielded ops a.tmps)=true) (hs:qB P N o f h v h₁) (hr:cx P N ops fF (ba f o.dst v) h₁ f' h'):cx P N ops (i::fF) f h f' h':=by
 intro S B ρ a w R Q hq
 simp only [wpOpsIn,ho]
 rw [if_pos (hw B ρ a w R)]
 refine hs S B ρ a w R _ _ ?_
 intro ae v' w' hv H T
 exact hr S B ae _ w' (R.ko hd T hv H) Q λfA jM ez iy T'=>hq fA jM ez iy (T.trans T')
theorem cx.pass {ops:Array Oper} {i:Nat} {fF:List Nat} {o:Oper} {f f':Nat->Value} {h h':ad} (ho:ops[i]?=some o) (hd:o.dst.all (·<N)=true)
  (hw:∀B ρ a w,bA P N B ρ f h a w->Region.wanted o (yielded ops a.tmps)=false) (hr:cx P N ops fF (ba f o.dst undef) h f' h'):cx P N ops (i::fF) f h f' h':=by
 intro S B ρ a w R Q hq
 simp only [wpOpsIn,ho]
 rw [if_neg (by rw [hw B ρ a w R];simp)]
 exact ⟨λ_ _=>trivial,hr S B ρ _ w (R.ko hd (Tr.refl R.heap) (af.undef _) R.heap) Q hq⟩
def iB (g:Option (Nat×Bool)) (f:Nat->Value):Prop:=
 match g with
 | none=>True
 | some (s,_)=>kf (f s)=false
theorem KB {ρ:ai} {v v':Value} (h:af ρ v v') (hb:kf v=false) (b:Bool):gT v' b=gT v b:=by
 cases h <;> first | rfl | simp [kf] at hb
theorem rl {v:Value} {b:Bool} {A B:Prop} (h:dN v b A B):kf v=false/\((gT v b=true/\A)∨(gT v b=false/\B)):=by
 unfold dN at h
 split at h
 ·rename_i c
  refine ⟨rfl,?_⟩
  split at h
  ·rename_i hc;exact .inl ⟨hc,h⟩
  ·rename_i hc;exact .inr ⟨by simpa [gT] using hc,h⟩
 ·exact h.elim
 ·rename_i x h1 h2
  have e1:kf v=false:=by
   cases v <;> first | rfl | exact absurd rfl (h2 _ _ _)
  have e2:gT v b=false:=by
   cases v <;> first | rfl | exact absurd rfl (h1 _)
  exact ⟨e1,.inr ⟨e2,h⟩⟩
theorem td {ops:Array Oper} {o:Oper} {g:Option (Nat×Bool)} (hg:qW N ops o.guard=some g) {B:Nat} {ρ:ai} {f:Nat->Value} {h:ad} {a:Act} {w:World} (R:bA P N B ρ f h a w) (hb:iB g f):
  Region.wanted o (yielded ops a.tmps)=cB g f:=by
 unfold qW at hg
 unfold Region.wanted
 cases dP:o.guard with
 | none=>rw [dP] at hg;simp at hg;subst hg;rfl
 | some jb=>
  obtain ⟨j,b⟩:=jb
  rw [dP] at hg
  simp only at hg⊢
  split at hg
  ·rename_i s hs
   split at hg
   ·rename_i hlt
    simp at hg;subst hg
    simp only [cB]
    have hr:=R.tmp s
    have fO:s<a.tmps.size:=by rw [R.size];exact hlt
    have aA:a.tmps[s]?=some (a.tmps.getD s Go.undef):=by simp [Array.getD,fO]
    rw [<-KB hr hb b]
    unfold yielded
    rw [hs]
    simp only [bind_some,aA]
    generalize a.tmps.getD s Go.undef=u
    cases u <;> simp [gT]
   ·cases hg
  ·cases hg
def mJ (f' f:Nat->Value):Prop:=∀t,f' t=f t∨f' t=zm
theorem bA.weaken {B:Nat} {ρ:ai} {f f':Nat->Value} {h:ad} {a:Act} {w:World} (R:bA P N B ρ f h a w) (hw:mJ f' f):bA P N B ρ f' h a w:=
 ⟨R.size,R.defers,λt=>(hw t).elim (λe=>by rw [e];exact R.tmp t) (λe=>by rw [e];exact .any _),R.heap⟩
theorem sf (f:Nat->Value):∀ls:List Nat,mJ (ey ls (ls.map f)) f
 | [],t=>.inr rfl
 | l::ls,t=>by
  simp only [map_cons,Ls]
  by_cases h:t=l
  ·subst h;simp
  ·rw [if_neg h];exact sf f ls t
theorem cx.weaken {ops:Array Oper} {fF:List Nat} {f bF f':Nat->Value} {h h':ad} (hw:mJ bF f) (hr:cx P N ops fF bF h f' h'):cx P N ops fF f h f' h':=
 λS B ρ a w R=>hr S B ρ a w (R.weaken hw)
theorem cr.weaken {b:Bool} {c:Code} {f bF f':Nat->Value} {h h':ad} {e:Exit} (hw:mJ bF f) (hr:cr P N b c bF h e f' h'):cr P N b c f h e f' h':=
 λS hS B ρ a w R=>hr S hS B ρ a w (R.weaken hw)
theorem kq {S:Option Nat} {ops:Array Oper} {Q:Exit->Act->World->Prop}:∀{i j:List Nat} {a:Act} {w:World},wpOpsIn (FR S) 0 P ops (λe a w=>match e with | .normal=>wpOpsIn (FR S) 0 P ops Q j a w | e=>Q e a w) i a w->wpOpsIn (FR S) 0 P ops Q (i++j) a w
 | [],j,a,w,h=>h
 | i::is,j,a,w,h=>by
  simp only [cons_append,wpOpsIn] at h⊢
  cases ho:ops[i]? with
  | none=>rw [ho] at h;exact kq h
  | some o=>
   rw [ho] at h
   simp only at h⊢
   split at h
   ·rename_i hw
    rw [if_pos hw]
    obtain ⟨h0,h⟩:=h
    refine ⟨h0,?_⟩
    generalize (o.semAt (FR S).round a.eval).run P w=r at h⊢
    cases r with
    | ok x w'=>
     cases x <;> simp only [Oper.uponIn] at h⊢
     ·exact kq h
     ·exact kq h
     ·refine ⟨h.1,h.2.mono ?_⟩
      rintro e ez hR
      cases e with
      | returned v=>exact kq hR
      | panicked chain=>exact hR
      | outgrown=>exact hR
     ·refine ⟨h.1,h.2.mono ?_⟩
      rintro e ez hR
      cases e with
      | returned v=>exact kq hR
      | panicked chain=>exact hR
      | outgrown=>exact hR
     ·exact kq h
     ·refine ⟨h.1,h.2.mono ?_⟩
      rintro v ez hR
      exact kq hR
    | halt x w'=>
     cases x <;> simp only [Oper.uponIn] at h⊢
     exact h
   ·rename_i hw
    rw [if_neg hw]
    exact ⟨h.1,kq h.2⟩
theorem cx.append {ops:Array Oper} {i j:List Nat} {f bF f':Nat->Value} {h h₁ h':ad} (a:cx P N ops i f h bF h₁) (b:cx P N ops j bF h₁ f' h'):cx P N ops (i++j) f h f' h':=by
 intro S B ρ ac w R Q hq
 refine kq (a S B ρ ac w R _ ?_)
 intro ae a' w' R' T
 exact b S B ae a' w' R' Q λfA jM ez iy T'=>hq fA jM ez iy (T.trans T')
theorem qX {ops:Array Oper} {o:Oper} {x:cD} (h:lD P N ops o=some x):
  o.op.operands.all df=true/\o.dst.all (·<N)=true/\kC P o.op=some x.op/\qW N ops o.guard=some x.guard/\x.dst=o.dst:=by
 unfold lD at h
 split at h
 ·rename_i hc
  simp only [and_eq_true] at hc
  split at h
  ·rename_i op g h1 h2
   simp at h;subst h
   exact ⟨hc.1,hc.2,h1,h2,rfl⟩
  ·cases h
 ·cases h
theorem oF {ops:Array Oper} {o:Oper} {os:List Oper} {l:List cD} (h:fc P N ops (o::os)=some l):∃x xs,lD P N ops o=some x/\fc P N ops os=some xs/\l=x::xs:=by
 simp only [fc] at h
 split at h
 ·rename_i x xs h1 h2
  simp at h
  exact ⟨x,xs,h1,h2,h.symm⟩
 ·cases h
theorem wy {ops:Array Oper}:∀{os:List Oper} {l:List cD} {i:Nat} {K:(Nat->Value)->ad->Prop} {f:Nat->Value} {h:ad},(∀(k:Nat) (o:Oper),os[k]?=some o->ops[i+k]?=some o)->fc P N ops os=some l->iQ P l K f h->
  ∃f' h',cx P N ops (range' i os.length) f h f' h'/\K f' h'
 | [],l,i,K,f,h,_,hc,hi=>by
  simp [fc] at hc
  subst hc
  exact ⟨f,h,cx.nil,hi⟩
 | o::os,l,i,K,f,h,nB,hc,hi=>by
  obtain ⟨x,xs,h1,h2,rfl⟩:=oF hc
  obtain ⟨q1,q2,q3,q4,q5⟩:=qX h1
  have ho:ops[i]?=some o:=nB 0 o rfl
  have Bq:∀(k:Nat) (o':Oper),os[k]?=some o'->ops[i+1+k]?=some o':=by
   intro k o' hk
   have:=nB (k+1) o' (by simpa using hk)
   rw [show i+(k+1)=i+1+k by omega] at this
   exact this
  have go:∀(_:iB x.guard f) (_:cB x.guard f=true),aT P x.op f h (λv h'=>iQ P xs K (ba f x.dst v) h')->
    ∃f' h',cx P N ops (range' i (o::os).length) f h f' h'/\K f' h':=by
   intro hb hw hs
   obtain ⟨v,h',bT,hk⟩:=nR (N:=N) q3 q1 hs
   obtain ⟨uN,aS,r1,r2⟩:=wy Bq h2 hk
   refine ⟨uN,aS,?_,r2⟩
   rw [length_cons,List.range'_succ]
   rw [q5] at r1
   exact cx.step ho q2 (λB ρ a w R=>by rw [td q4 R hb,hw]) bT r1
  have skip:∀(_:iB x.guard f) (_:cB x.guard f=false),iQ P xs K (ba f x.dst undef) h->
    ∃f' h',cx P N ops (range' i (o::os).length) f h f' h'/\K f' h':=by
   intro hb hw hs
   obtain ⟨uN,aS,r1,r2⟩:=wy Bq h2 hs
   refine ⟨uN,aS,?_,r2⟩
   rw [length_cons,List.range'_succ]
   rw [q5] at r1
   exact cx.pass ho q2 (λB ρ a w R=>by rw [td q4 R hb,hw]) r1
  simp only [iQ] at hi
  split at hi
  ·rename_i dP
   exact go (by rw [dP];trivial) (by rw [dP];rfl) hi
  ·rename_i s b dP
   obtain ⟨e1,e2⟩:=rl hi
   rcases e2 with ⟨e2,e3⟩ | ⟨e2,e3⟩
   ·exact go (by rw [dP];exact e1) (by rw [dP];exact e2) e3
   ·exact skip (by rw [dP];exact e1) (by rw [dP];exact e2) e3
def jT (g:Option (Nat×Bool)) (l:List eD):List cD:=l.map λo=>⟨o.dst,o.op,g⟩
def hQ:List (Option (Nat×Bool)×List eD)->List cD
 | []=>[]
 | (g,l)::gs=>jT g l++hQ gs
theorem uV:∀os:List cD,hQ (jX os)=os
 | []=>rfl
 | o::os=>by
  have ih:=uV os
  simp only [jX]
  cases hg:jX os with
  | nil=>
   rw [hg] at ih
   simp only [hQ] at ih
   subst ih
   simp [hQ,jT]
  | cons a gs=>
   obtain ⟨g,l⟩:=a
   rw [hg] at ih
   simp only
   split
   ·rename_i he
    simp only [hQ,jT,map_cons,cons_append] at ih⊢
    rw [ih,<-he]
   ·simp only [hQ,jT,map_cons,List.map_nil,cons_append,List.nil_append] at ih⊢
    rw [ih]
theorem vd {v:Value} {b:Bool} {A B:Prop} (hb:kf v=false) (hA:gT v b=true->A) (hB:gT v b=false->B):dN v b A B:=by
 unfold dN
 split
 ·split
  ·rename_i c hc;exact hA hc
  ·rename_i c hc;exact hB (by simpa [gT] using hc)
 ·simp [kf] at hb
 ·rename_i x h1 h2
  refine hB ?_
  cases v <;> first | rfl | exact absurd rfl (h1 _)
theorem Ly {g:Option (Nat×Bool)} {K:(Nat->Value)->ad->Prop}:∀{l:List eD} {f:Nat->Value} {h:ad},(∀o∈l,leaves g o.dst=true)->ki P g l K f h->iQ P (jT g l) K f h:=by
 intro l f h hl hk
 cases g with
 | none=>
  simp only [ki] at hk
  clear hl
  induction l generalizing f h with
  | nil=>exact hk
  | cons o l ih=>
   simp only [kJ] at hk
   simp only [jT,map_cons,iQ]
   have:aT P o.op f h (λv h'=>iQ P (jT none l) K (ba f o.dst v) h'):=by
    have mono:∀{io:cL} {K K':Value->ad->Prop},(∀v h,K v h->K' v h)->aT P io f h K->aT P io f h K':=by
     intro io K K' hm hs
     cases io with
     | p po=>simp only [aT,bH] at hs⊢;split at hs <;> first | exact hm _ _ hs | exact hs.elim
     | l lo=>simp only [aT,bH] at hs⊢;split at hs <;> first | exact hm _ _ hs | exact hs.elim
     | e eo=>simp only [aT,fx] at hs⊢;split at hs <;> first | exact hm _ _ hs | exact hs.elim
     | call g args=>exact hs.mono hm
     | ej x args=>simp only [aT,ji] at hs⊢;split at hs <;> first | exact ⟨hs.1,hs.2.mono hm⟩ | exact hs.elim
    exact mono (λv h' bG=>ih bG) hk
   exact this
 | some sb=>
  obtain ⟨s,b⟩:=sb
  simp only [ki] at hk
  obtain ⟨e1,e2⟩:=rl hk
  clear hk
  induction l generalizing f h with
  | nil=>
   rcases e2 with ⟨_,e⟩ | ⟨_,e⟩ <;> exact e
  | cons o l ih=>
   have hd:o.dst≠some s:=by simpa [leaves] using hl o (by simp)
   have hs:∀v,ba f o.dst v s=f s:=by
    intro v
    cases ho:o.dst with
    | none=>rfl
    | some d=>
     have:s≠d:=by rintro rfl;exact hd ho
     simp [ba,iY,this]
   simp only [jT,map_cons,iQ]
   refine vd e1 (λhb=>?_) (λhb=>?_)
   ·rcases e2 with ⟨_,e⟩ | ⟨e,_⟩
    ·simp only [kJ] at e
     have mono:∀{io:cL} {K K':Value->ad->Prop},(∀v h,K v h->K' v h)->aT P io f h K->aT P io f h K':=by
      intro io K K' hm hs
      cases io with
      | p po=>simp only [aT,bH] at hs⊢;split at hs <;> first | exact hm _ _ hs | exact hs.elim
      | l lo=>simp only [aT,bH] at hs⊢;split at hs <;> first | exact hm _ _ hs | exact hs.elim
      | e eo=>simp only [aT,fx] at hs⊢;split at hs <;> first | exact hm _ _ hs | exact hs.elim
      | call g args=>exact hs.mono hm
      | ej x args=>simp only [aT,ji] at hs⊢;split at hs <;> first | exact ⟨hs.1,hs.2.mono hm⟩ | exact hs.elim
     refine mono (λv h' bG=>?_) e
     exact ih (λo' bm=>hl o' (by simp [bm])) (by rw [hs];exact e1) (.inl ⟨by rw [hs];exact hb,bG⟩)
    ·rw [hb] at e;cases e
   ·rcases e2 with ⟨e,_⟩ | ⟨_,e⟩
    ·rw [hb] at e;cases e
    ·exact ih (λo' bm=>hl o' (by simp [bm])) (by rw [hs];exact e1) (.inr ⟨by rw [hs];exact hb,e⟩)
theorem Aw {ops:Array Oper}:∀{os:List Oper} {m0 m1:List cD},fc P N ops os=some (m0++m1)->∃ig iT,os=ig++iT/\fc P N ops ig=some m0/\fc P N ops iT=some m1
 | os,[],m1,h=>⟨[],os,rfl,rfl,h⟩
 | [],x::m0,m1,h=>by simp [fc] at h
 | o::os,x::m0,m1,h=>by
  obtain ⟨y,ys,h1,h2,he⟩:=oF h
  simp only [cons_append,List.cons.injEq] at he
  obtain ⟨rfl,rfl⟩:=he
  obtain ⟨ig,iT,rfl,e1,e2⟩:=Aw h2
  refine ⟨o::ig,iT,rfl,?_,e2⟩
  simp [fc,h1,e1]
theorem Ay {ls:List Nat} {c:b9} {K:Exit->(Nat->Value)->ad->Prop} {f:Nat->Value} {h:ad} (hi:cJ P (oG ls c) K f h):∃f',mJ f' f/\cJ P c K f' h:=by
 cases ls with
 | nil=>exact ⟨f,λ_=>.inl rfl,hi⟩
 | cons l ls=>exact ⟨_,sf f (l::ls),hi⟩
theorem MX {ops:Array Oper}:∀{gs:List (Option (Nat×Bool)×List eD)} {hs:Hints} {os:List Oper} {i:Nat} {K:Exit->(Nat->Value)->ad->Prop} {f:Nat->Value} {h:ad},
  (∀(k:Nat) (o:Oper),os[k]?=some o->ops[i+k]?=some o)->fc P N ops os=some (hQ gs)->(∀g l,(g,l)∈gs->∀o∈l,leaves g o.dst=true)->cJ P (k8 gs hs).1 K f h->
  ∃f' h',cx P N ops (range' i os.length) f h f' h'/\K .normal f' h':=by
 intro gs
 induction gs with
 | nil=>
  intro hs os i K f h nB hc _ hi
  cases os with
  | nil=>exact ⟨f,h,cx.nil,hi⟩
  | cons o os=>
   obtain ⟨x,xs,_,_,he⟩:=oF hc
   simp [hQ] at he
 | cons a gs ih=>
  obtain ⟨g,l⟩:=a
  intro hs os i K f h nB hc hl hi
  simp only [hQ] at hc
  obtain ⟨ig,iT,rfl,c0,c1⟩:=Aw hc
  have Jw:∀(k:Nat) (o:Oper),ig[k]?=some o->ops[i+k]?=some o:=by
   intro k o hk
   refine nB k o ?_
   rw [getElem?_append_left (bu hk).1]
   exact hk
  have Jx:∀(k:Nat) (o:Oper),iT[k]?=some o->ops[i+ig.length+k]?=some o:=by
   intro k o hk
   rw [Nat.add_assoc]
   refine nB _ o ?_
   rw [List.getElem?_append_right (by omega)]
   simpa using hk
  have first:∀{K:(Nat->Value)->ad->Prop},ki P g l K f h->∃f' h',cx P N ops (range' i ig.length) f h f' h'/\K f' h':=by
   intro K hk
   exact wy Jw c0 (Ly (λo ho=>hl g l (by simp) o ho) hk)
  have both:∀{bF:Nat->Value} {h₁:ad} {f':Nat->Value} {h':ad},cx P N ops (range' i ig.length) f h bF h₁->cx P N ops (range' (i+ig.length) iT.length) bF h₁ f' h'->cx P N ops (range' i (ig++iT).length) f h f' h':=by
   intro bF h₁ f' h' a b
   rw [List.length_append,<-List.range'_append_1]
   exact a.append b
  have rest:∀{hs:Hints} {bF:Nat->Value} {h₁:ad},cJ P (k8 gs hs).1 K bF h₁->∃f' h',cx P N ops (range' (i+ig.length) iT.length) bF h₁ f' h'/\K .normal f' h':=
   λhk=>ih Jx c1 (λg' l' hm=>hl g' l' (by simp [hm])) hk
  cases gs with
  | nil=>
   have Ju:cJ P (.ops g l) K f h:=by
    cases hs <;> exact hi
   obtain ⟨f',h',r1,r2⟩:=first Ju
   have h1:iT=[]:=by
    cases iT with
    | nil=>rfl
    | cons o os=>obtain ⟨x,xs,_,_,he⟩:=oF c1;simp [hQ] at he
   subst h1
   exact ⟨f',h',by simpa using r1,r2⟩
  | cons b gs=>
   cases hs with
   | nil=>
    obtain ⟨bF,h₁,r1,r2⟩:=first (K:=λf h=>cJ P (k8 (b::gs) []).1 K f h) hi
    obtain ⟨f',h',s1,s2⟩:=rest r2
    exact ⟨f',h',both r1 s1,s2⟩
   | cons h0 hs=>
    obtain ⟨bF,h₁,r1,r2⟩:=first (K:=λf h=>cJ P (oG h0 (k8 (b::gs) hs).1) K f h) hi
    obtain ⟨Is,hw,r3⟩:=Ay r2
    obtain ⟨f',h',s1,s2⟩:=rest r3
    exact ⟨f',h',both r1 (s1.weaken hw),s2⟩
def iR (S:Option Nat) (P:Program) (c:Code) (Q:Exit->Act->World->Prop) (a:Act) (w:World):Prop:=
 ∀(b:Frame) (k:List Item) (cs:List Frame),b.roundOf=S->
  ∃e a' w',Q e a' w'/\ArrivesIn (Machine.fenced P (FR S)) P (lone (b.atR a (.code c:: .inLoop c::k)) cs w) b k cs e a' w'
theorem FR.room (S:Option Nat) (n:Nat):(FR S).room n:=λ_ h=>by cases h
theorem iR.wp {S:Option Nat} {c:Code} {Q:Exit->Act->World->Prop} {a:Act} {w:World} (h:iR S P c Q a w):(Code.loop c).wpIn (FR S) 0 P Q a w:=by
 intro b k cs dW hb hr
 obtain ⟨e,a',w',q,r⟩:=h b k cs dW
 exact ⟨e,a',w',q,.of_steps (.one (fenced_calm hb hr rfl) stepR_loop) r⟩
theorem iR.round {S:Option Nat} {c:Code} {Q:Exit->Act->World->Prop} {a:Act} {w:World} (h:c.wpIn (FR S) 0 P (Exit.then (iR S P c Q) Q) a w):iR S P c Q a w:=by
 intro b k cs dW
 have hb:(FR S).fn b.fn:=trivial
 have hr:(FR S).room (cs.length+1+0):=FR.room S _
 obtain ⟨e,ou,ja,hq,kK⟩:=h b (.inLoop c::k) cs dW hb hr
 cases e with
 | normal=>
  obtain ⟨Ih,F4,tf,JH,IJ⟩:=hq b k cs dW
  exact ⟨Ih,F4,tf,JH,.of_steps (StepsIn.trans kK (.one (fenced_calm hb hr rfl) stepR_inLoop)) IJ⟩
 | exit id=>exact ⟨_,ou,ja,hq,.pass (x:=.inLoop c) rfl (λ_ _=>.inl (by simp)) kK⟩
 | goto l=>exact ⟨_,ou,ja,hq,.pass (x:=.inLoop c) rfl (λ_ _=>.inl (by simp)) kK⟩
 | ret=>exact ⟨_,ou,ja,hq,.pass (x:=.inLoop c) rfl (λ_ _=>.inl (by simp)) kK⟩
 | panic ch=>exact ⟨_,ou,ja,hq,.pass (x:=.inLoop c) rfl (λ_ _=>.inl (by simp)) kK⟩
 | outgrown=>exact ⟨_,ou,ja,hq,.pass (x:=.inLoop c) rfl (λ_ _=>.inl (by simp)) kK⟩
theorem K6 {l:List cD} (h:l.all (λo=>leaves o.guard o.dst)=true):∀g m,(g,m)∈jX l->∀o∈m,leaves g o.dst=true:=by
 intro g m hm o ho
 have eu:(⟨o.dst,o.op,g⟩:cD)∈hQ (jX l):=by
  generalize jX l=gs at hm
  induction gs with
  | nil=>simp at hm
  | cons a gs ih=>
   obtain ⟨g',m'⟩:=a
   simp only [hQ,List.mem_append]
   rcases mem_cons.1 hm with he | hm
   ·cases he
    left
    simp only [jT,List.mem_map]
    exact ⟨o,ho,rfl⟩
   ·exact .inr (ih hm)
 rw [uV] at eu
 rw [all_eq_true] at h
 exact h _ eu
def gD (P:Program) (N:Nat) (out:Bool) (c:Code) (f:Nat->Value) (h:ad) (e:Exit) (f':Nat->Value) (h':ad):Prop:=
 ∀S,(out=true->S=none)->∀B ρ a w,bA P N B ρ f h a w->iR S P c (lx P N B ρ h w e f' h') a w
theorem iR.mono {S:Option Nat} {c:Code} {Q Q':Exit->Act->World->Prop} {a:Act} {w:World} (h:iR S P c Q a w) (hq:∀e a w,Q e a w->Q' e a w):iR S P c Q' a w:=
 λb k cs dW=>let ⟨e,a',w',q,r⟩:=h b k cs dW;⟨e,a',w',hq _ _ _ q,r⟩
theorem lx.trans {B:Nat} {ρ mP:ai} {h h₁ h':ad} {w ja:World} {e:Exit} {f':Nat->Value} (T:Tr ρ h w mP h₁ ja):∀e' a' w',lx P N B mP h₁ ja e f' h' e' a' w'->lx P N B ρ h w e f' h' e' a' w':=by
 rintro e' a' w' ⟨rfl,ae,R,T'⟩
 exact ⟨rfl,ae,R,T.trans T'⟩
variable {out : Bool}
theorem gD.next {c:Code} {f bF f':Nat->Value} {h h₁ h':ad} {e:Exit} (a:cr P N out c f h .normal bF h₁) (b:gD P N out c bF h₁ e f' h'):gD P N out c f h e f' h':=by
 intro S hS B ρ ac w R
 refine iR.round (wpIn_mono (a S hS B ρ ac w R) ?_)
 rintro e' a' w' ⟨rfl,ae,R',T⟩
 exact (b S hS B ae a' w' R').mono (lx.trans T)
theorem gD.leave {c:Code} {f f':Nat->Value} {h h':ad} {e:Exit} (he:e≠ .normal) (a:cr P N out c f h e f' h'):gD P N out c f h e f' h':=by
 intro S hS B ρ ac w R
 refine iR.round (wpIn_mono (a S hS B ρ ac w R) ?_)
 rintro e' a' w' ⟨rfl,ae,R',T⟩
 cases e' <;> first | exact absurd rfl he | exact ⟨rfl,ae,R',T⟩
theorem gD.run {c:Code} {f f':Nat->Value} {h h':ad} {e:Exit} (a:gD P N out c f h e f' h'):cr P N out (.loop c) f h e f' h':=λS hS B ρ ac w R=>(a S hS B ρ ac w R).wp
theorem cr.seq {x y:Code} {f bF f':Nat->Value} {h h₁ h':ad} {e:Exit} (a:cr P N out x f h .normal bF h₁) (b:cr P N out y bF h₁ e f' h'):cr P N out (.seq x y) f h e f' h':=by
 intro S hS B ρ ac w R
 refine wpIn_seq (wpIn_mono (a S hS B ρ ac w R) ?_)
 rintro e' a' w' ⟨rfl,ae,R',T⟩
 exact wpIn_mono (b S hS B ae a' w' R') (lx.trans T)
theorem cr.NN {x y:Code} {f f':Nat->Value} {h h':ad} {e:Exit} (he:e≠ .normal) (a:cr P N out x f h e f' h'):cr P N out (.seq x y) f h e f' h':=by
 intro S hS B ρ ac w R
 refine wpIn_seq (wpIn_mono (a S hS B ρ ac w R) ?_)
 rintro e' a' w' ⟨rfl,ae,R',T⟩
 cases e' <;> first | exact absurd rfl he | exact ⟨rfl,ae,R',T⟩
theorem cr.block {id:Nat} {c:Code} {f f':Nat->Value} {h h':ad} {e:Exit} (a:cr P N out c f h e f' h'):cr P N out (.block id c) f h (match e with | .exit i=>if i=id then .normal else .exit i | e=>e) f' h':=by
 intro S hS B ρ ac w R
 refine wpIn_block (wpIn_mono (a S hS B ρ ac w R) ?_)
 rintro e' a' w' ⟨rfl,ae,R',T⟩
 cases e' with
 | exit i=>
  simp only [Exit.inBlock]
  split
  ·exact ⟨rfl,ae,R',T⟩
  ·exact ⟨rfl,ae,R',T⟩
 | _=>exact ⟨rfl,ae,R',T⟩
theorem cr.cond {c:Operand} {x y:Code} {t:Bool} {f f':Nat->Value} {h h':ad} {e:Exit} (hc:df c=true) (ht:ev f c=.bool t) (a:cr P N out (if t then x else y) f h e f' h'):cr P N out (.cond c x y) f h e f' h':=by
 intro S hS B ρ ac w R
 have:=R.ev hc
 rw [ht] at this
 exact wpIn_cond this.mX (a S hS B ρ ac w R)
theorem cr.region {id:Nat} {ops:Array Oper} {f f':Nat->Value} {h h':ad} (a:cx P N ops (List.range ops.size) f h f' h'):cr P N out (.region id ops false) f h .normal f' h':=by
 intro S hS B ρ ac w R
 refine wpIn_region (a S B ρ ac w R _ ?_)
 intro ae a' w' R' T
 exact ⟨rfl,ae,R',T⟩
theorem gD.weaken {c:Code} {f bF f':Nat->Value} {h h':ad} {e:Exit} (hw:mJ bF f) (hr:gD P N out c bF h e f' h'):gD P N out c f h e f' h':=
 λS hS B ρ a w R=>hr S hS B ρ a w (R.weaken hw)
end
end
section
inductive ly (ops:Array Oper):List Nat->List Nat->Prop
 | nil {S:List Nat}:(∀i,i<ops.size->i∈S)->ly ops S []
 | cons {S:List Nat} {i:Nat} {o:Oper} {l:List Nat}:ops[i]?=some o->i∉S->(∀e∈bB o,e∈S)->ly ops (i::S) l->ly ops S (i::l)
theorem qG:∀{ops:List Oper} {i:Nat},lA ops i=true->∀(k:Nat) (o:Oper),ops[k]?=some o->∀e∈bB o,e<i+k
 | [],i,_,k,o,hk=>by simp at hk
 | x::ops,i,h,k,o,hk=>by
  simp only [lA,and_eq_true,all_eq_true,decide_eq_true_eq] at h
  cases k with
  | zero=>simp at hk;subst hk;exact h.1
  | succ k=>
   intro e he
   have:=qG h.2 k o (by simpa using hk) e he
   omega
def ready (ops:Array Oper) (listed:Array Bool) (i:Nat):Bool:=
 !listed.getD i true&&((ops[i]?).map (·.after.all λe=> !Region.binds .any e||listed.getD e.on false)).getD false
theorem Iz (ops:Array Oper) (fuel t:Nat) (listed:Array Bool) (acc:List Nat):
  Region.linearise.go .any ops (fuel+1) t listed acc=
   match ((List.range ops.size).filter (ready ops listed))[t%((List.range ops.size).filter (ready ops listed)).length]? with
   | some i=>Region.linearise.go .any ops fuel (t / ((List.range ops.size).filter (ready ops listed)).length) (listed.setIfInBounds i true) (i::acc)
   | none=>acc.reverse:=by
 rw [Region.linearise.go]
 rfl
theorem DR {ops:Array Oper} {listed:Array Bool} {S:List Nat} (hl:listed.size=ops.size) (hS:∀i,i<ops.size->(listed.getD i false=true↔i∈S)) (hb:∀(k:Nat) (o:Oper),ops[k]?=some o->∀e∈bB o,e<k)
  {i:Nat} (hi:i<ops.size):ready ops listed i=true↔i∉S/\∀o,ops[i]?=some o->∀e∈bB o,e∈S:=by
 have ho:ops[i]?=some ops[i]:=by simp [hi]
 have e1:listed.getD i true=listed.getD i false:=by simp [Array.getD,hl,hi]
 unfold ready
 rw [e1,ho]
 simp only [map_some,getD_some,and_eq_true,Bool.not_eq_true',Option.some.injEq,forall_eq']
 have h1:listed.getD i false=false↔i∉S:=by
  rw [<-hS i hi]
  cases listed.getD i false <;> simp
 rw [h1]
 refine and_congr_right λ_=>?_
 rw [Array.all_eq_true']
 constructor
 ·intro h e he
  have hlt:=hb i _ ho e he
  unfold bB at he
  simp only [List.mem_filterMap] at he
  obtain ⟨x,hx,rO⟩:=he
  split at rO
  ·rename_i jn
   simp at rO
   subst rO
   have:=h x (by simpa using hx)
   simp only [or_eq_true,Bool.not_eq_true',jn] at this
   exact (hS _ (by omega)).1 (by simpa using this)
  ·cases rO
 ·intro h x hx
  cases jn:Region.binds .any x with
  | false=>simp
  | true=>
   have hm:x.on∈bB ops[i]:=by
    unfold bB
    simp only [List.mem_filterMap]
    exact ⟨x,by simpa using hx,by simp [jn]⟩
   have hlt:=hb i _ ho _ hm
   simp [(hS x.on (by omega)).2 (h _ hm)]
theorem se:∀{l m:List Nat},l.Nodup->l ⊆ m->l.length<=m.length
 | [],m,_,_=>by simp
 | x::l,m,hd,hs=>by
  have hx:x∈m:=hs (by simp)
  rw [nodup_cons] at hd
  have h1:l ⊆ m.erase x:=by
   intro y hy
   have aV:y≠x:=by rintro rfl;exact hd.1 hy
   exact (List.mem_erase_of_ne aV).2 (hs (by simp [hy]))
  have h2:=se hd.2 h1
  rw [List.length_erase_of_mem hx] at h2
  have:0<m.length:=List.length_pos_of_mem hx
  simp
  omega
theorem Hl {n:Nat} {S:List Nat} (hlen:S.length<n):∃i,i<n/\i∉S/\∀k,k<i->k∈S:=by
 have hex:∃i,i<n/\i∉S:=by
  apply byContradiction
  intro aP
  have dt:∀i,i<n->i∈S:=λi hi=>byContradiction λh=>aP ⟨i,hi,h⟩
  have pw:List.range n ⊆ S:=λi hi=>dt i (mem_range.1 hi)
  have:=se (List.nodup_range (n:=n)) pw
  simp at this
  omega
 have key:∀m,(∃i,i<m/\i<n/\i∉S)->∃i,i<n/\i∉S/\∀k,k<i->k∈S:=by
  intro m
  induction m with
  | zero=>rintro ⟨i,h,_⟩;omega
  | succ m ih=>
   rintro ⟨i,h1,h2,h3⟩
   by_cases bJ:∃i,i<m/\i<n/\i∉S
   ·exact ih bJ
   ·have Je:i=m:=by
     by_cases e:i=m
     ·exact e
     ·exact absurd ⟨i,by omega,h2,h3⟩ bJ
    subst Je
    refine ⟨i,h2,h3,λk hk=>byContradiction λoZ=>bJ ⟨k,hk,by omega,oZ⟩⟩
 obtain ⟨i,h1,h2⟩:=hex
 exact key n ⟨i,h1,h1,h2⟩
theorem A1 {ops:Array Oper} (hb:∀(k:Nat) (o:Oper),ops[k]?=some o->∀e∈bB o,e<k):∀(fuel t:Nat) (listed:Array Bool) (acc:List Nat),listed.size=ops.size->
  (∀i,i<ops.size->(listed.getD i false=true↔i∈acc))->acc.Nodup->(∀i∈acc,i<ops.size)->acc.length+fuel=ops.size->
  ∃l,Region.linearise.go .any ops fuel t listed acc=acc.reverse++l/\ly ops acc l
 | 0,t,listed,acc,hl,hS,hd,hlt,hf=>by
  refine ⟨[],by simp [Region.linearise.go],.nil ?_⟩
  intro i hi
  apply byContradiction
  intro h
  have pw:(i::acc) ⊆ List.range ops.size:=by
   intro x hx
   rcases mem_cons.1 hx with rfl | hx
   ·simpa using hi
   ·simpa using hlt x hx
  have:=se (nodup_cons.2 ⟨h,hd⟩) pw
  simp at this
  omega
 | fuel+1,t,listed,acc,hl,hS,hd,hlt,hf=>by
  rw [Iz]
  obtain ⟨i0,Bg,Jc,Jb⟩:=Hl (n:=ops.size) (S:=acc) (by omega)
  have JI:ready ops listed i0=true:=(DR hl hS hb Bg).2 ⟨Jc,λo ho e he=>Jb e (hb i0 o ho e he)⟩
  have mc:0<((List.range ops.size).filter (ready ops listed)).length:=List.length_pos_of_mem (List.mem_filter.2 ⟨mem_range.2 Bg,JI⟩)
  have aA:∃i,((List.range ops.size).filter (ready ops listed))[t%((List.range ops.size).filter (ready ops listed)).length]?=some i:=⟨_,getElem?_eq_getElem (Nat.mod_lt _ mc)⟩
  obtain ⟨i,hi⟩:=aA
  rw [hi]
  have eu:=mem_of_getElem? hi
  simp only [List.mem_filter,mem_range] at eu
  obtain ⟨er,JL⟩:=eu
  obtain ⟨iJ,lZ⟩:=(DR hl hS hb er).1 JL
  obtain ⟨l,h1,h2⟩:=A1 hb fuel (t / ((List.range ops.size).filter (ready ops listed)).length) (listed.setIfInBounds i true) (i::acc) (by simpa using hl) (by
   intro k hk
   by_cases e:k=i
   ·subst e;simp [Array.getD,hl,hk]
   ·have:(listed.setIfInBounds i true).getD k false=listed.getD k false:=by
     simp only [Array.getD_eq_getD_getElem?,Array.getElem?_setIfInBounds]
     rw [if_neg (Ne.symm e)]
    rw [this,hS k hk]
    simp [e]) (nodup_cons.2 ⟨iJ,hd⟩) (by
   intro k hk
   rcases mem_cons.1 hk with rfl | hk
   ·exact er
   ·exact hlt k hk) (by simp;omega)
  refine ⟨i::l,by simp only [h1];simp,?_⟩
  exact .cons (o:=ops[i]) (by simp [er]) iJ (lZ _ (by simp [er])) h2
theorem B2 {ops:Array Oper} (hb:lA ops.toList 0=true) (t:Nat):ly ops [] (Region.linearise .any ops t):=by
 have fh:∀(k:Nat) (o:Oper),ops[k]?=some o->∀e∈bB o,e<k:=by
  intro k o hk e he
  have:=qG hb k o (by simpa using hk) e he
  omega
 obtain ⟨l,h1,h2⟩:=A1 fh ops.size t (replicate ops.size false) [] (by simp) (by intro i hi;simp [Array.getD,hi]) .nil (by simp) (by simp)
 have:Region.linearise .any ops t=l:=by
  unfold Region.linearise
  rw [h1]
  simp
 rw [this]
 exact h2
end
section
theorem uL {f f':Nat->Value}:∀{l:List Operand},(∀t∈tmpsOf l,f t=f' t)->∀x∈l,ev f x=ev f' x
 | [],_,x,hx=>by simp at hx
 | y::l,h,x,hx=>by
  have h':∀t∈tmpsOf l,f t=f' t:=by
   intro t ht
   apply h
   cases y <;> simp [tmpsOf,ht]
  rcases mem_cons.1 hx with rfl | hx
  ·cases x with
   | tmp t=>exact h t (by simp [tmpsOf])
   | _=>rfl
  ·exact uL h' x hx
theorem pH {g g':Operand->Value} {xs:List Operand} (h:∀x∈xs,g x=g' x):xs.map g=xs.map g':=List.map_congr_left h
theorem sn {g g':Operand->Value} {x:Option Operand} (h:∀y∈x.toList,g y=g' y):x.map g=x.map g':=by
 cases x with
 | none=>rfl
 | some y=>simp [h y (by simp)]
theorem sw {g g':Operand->Value} {ps:List (Nat×Nat×Operand)} (h:∀x∈ps.map (·.2.2),g x=g' x):(ps.map λ(o,s,x)=>(o,s,g x))=ps.map λ(o,s,x)=>(o,s,g' x):=by
 apply List.map_congr_left
 rintro ⟨o,s,x⟩ hx
 simp [h x (by simp;exact ⟨o,s,hx⟩)]
theorem KA {o:gE} {g g':Operand->Value} (h:∀x∈o.cp,g x=g' x):cP o g=cP o g':=by
 cases o with
 | pI mx xs=>
  simp only [cP]
  rw [pH (xs:=xs) h]
 | sQ x lo hi=>
  simp only [cP,gE.cp] at*
  rw [h x (by simp),sn (x:=lo) (λy hy=>h y (by simp at hy⊢;exact .inr (.inl hy))),sn (x:=hi) (λy hy=>h y (by simp at hy⊢;exact .inr (.inr hy)))]
 | sR e s x lo hi=>
  simp only [cP,gE.cp] at*
  rw [h x (by simp),sn (x:=lo) (λy hy=>h y (by simp at hy⊢;exact .inr (.inl hy))),sn (x:=hi) (λy hy=>h y (by simp at hy⊢;exact .inr (.inr hy)))]
 | fn f first captured=>
  simp only [cP,gE.cp] at*
  rw [pH (xs:=first) (λx hx=>h x (by simp [hx])),pH (xs:=captured) (λx hx=>h x (by simp [hx]))]
 | build zero parts=>
  simp only [cP]
  rw [sw (ps:=parts) h]
 | _=>simp [gE.cp] at h;simp [cP,h]
theorem Kw {o:ga} {g g':Operand->Value} (h:∀x∈o.cp,g x=g' x) (H:ad):bM o g H=bM o g' H:=by
 cases o <;> simp [ga.cp] at h <;> simp [bM,h]
theorem Ks {o:fZ} {g g':Operand->Value} (h:∀x∈o.cp,g x=g' x) (H:ad):bW o g H=bW o g' H:=by
 cases o with
 | fw e n zs ps=>
  simp only [bW]
  rw [sw (ps:=ps) h]
 | fl a=>
  cases a with
  | fw e n zs ps=>
   simp only [bW]
   rw [sw (ps:=ps) h]
  | _=>simp [fZ.cp,eS.cp] at h;simp [bW,h]
 | _=>simp [fZ.cp] at h;simp [bW,h]
theorem sT {P:Program} {io:cL} {f f':Nat->Value} {h:ad} {K:Value->ad->Prop} (hf:∀t∈tmpsOf io.cp,f t=f' t):aT P io f h K↔aT P io f' h K:=by
 have he:=uL hf
 cases io with
 | p o=>simp only [aT];rw [KA he]
 | l o=>simp only [aT];rw [Kw he]
 | e o=>simp only [aT];rw [Ks he]
 | call g args=>
  simp only [aT]
  rw [pH (xs:=args) he]
 | ej x args=>simp only [aT];rw [he x (by simp [cL.cp]),pH (xs:=args) (λy hy=>he y (by simp [cL.cp,hy]))]
structure Trace (P:Program) (l:List aK) (j0:Nat) (F:Nat->Nat->Value) (H:Nat->ad) (V:Nat->Value):Prop where
 lg:∀k o,l[k]?=some o->F (j0+k+1)=ba (F (j0+k)) o.op.dst (V (j0+k))
 va:∀k o,l[k]?=some o->iB o.op.guard (F (j0+k))
 yes:∀k o,l[k]?=some o->cB o.op.guard (F (j0+k))=true->aT P o.op.op (F (j0+k)) (H (j0+k)) λv h'=>v=V (j0+k)/\h'=H (j0+k+1)
 no:∀k o,l[k]?=some o->cB o.op.guard (F (j0+k))=false->V (j0+k)=undef/\H (j0+k+1)=H (j0+k)
 past:∀e oe k ok lo,l[e]?=some oe->oe.op.op.aW=true->l[k]?=some ok->ok.op.op=.l lo->cB ok.op.guard (F (j0+k))=true->e<k->ok.pre.testBit (j0+e)=false->
  bM lo (ev (F (j0+k))) (H (j0+e))=some (V (j0+k))
 u0:∀k ok lo e oe,l[k]?=some ok->ok.op.op=.l lo->cB ok.op.guard (F (j0+k))=true->l[e]?=some oe->oe.op.op.aW=true->k<e->oe.pre.testBit (j0+k)=false->
  bM lo (ev (F (j0+k))) (H (j0+e+1))=some (V (j0+k))
 AX:∀k ok a,l[k]?=some ok->ok.op.op=.e (.fl a)->cB ok.op.guard (F (j0+k))=true->∃u,fE (H (j0+k+1)) (V (j0+k))=some u/\
  ∀e oe,l[e]?=some oe->oe.op.op.aW=true->k<e->oe.pre.testBit (j0+k)=false->fE (H (j0+e+1)) (V (j0+k))=some u
theorem uw {pre:Nat} {lo:ga} {f:Nat->Value} {v:Value}:∀{hs:List (Nat×ad)},kB pre lo f v hs->∀e H,(e,H)∈hs->pre.testBit e=false->bM lo (ev f) H=some v
 | [],_,e,H,hm,_=>by simp at hm
 | (e',H')::r,h,e,H,hm,hp=>by
  simp only [kB] at h
  rcases mem_cons.1 hm with hq | hm
  ·cases hq
   rw [if_neg (by rw [hp];simp)] at h
   exact h.1
  ·split at h
   ·exact uw h e H hm hp
   ·exact uw h.2 e H hm hp
theorem oE {pre:Nat} {H:ad}:∀{ls:br},ek pre H ls->∀j lo f v,(j,lo,f,v)∈ls->pre.testBit j=false->bM lo (ev f) H=some v
 | [],_,j,lo,f,v,hm,_=>by simp at hm
 | (j',fS,f',v')::r,h,j,lo,f,v,hm,hp=>by
  simp only [ek] at h
  rcases mem_cons.1 hm with hq | hm
  ·cases hq
   rw [if_neg (by rw [hp];simp)] at h
   exact h.1
  ·split at h
   ·exact oE h j lo f v hm hp
   ·exact oE h.2 j lo f v hm hp
def om (P:Program) (l:List aK) (j:Nat) (ah:List (Nat×ad)) (ag:br) (K:(Nat->Value)->ad->Prop) (f:Nat->Value) (h:ad):Prop:=
 ∃F H V,F j=f/\H j=h/\K (F (j+l.length)) (H (j+l.length))/\Trace P l j F H V/\
  (∀e Hh,(e,Hh)∈ah->∀k ok lo,l[k]?=some ok->ok.op.op=.l lo->cB ok.op.guard (F (j+k))=true->ok.pre.testBit e=false->bM lo (ev (F (j+k))) Hh=some (V (j+k)))/\
  (∀i lo ff v,(i,lo,ff,v)∈ag->∀e oe,l[e]?=some oe->oe.op.op.aW=true->oe.pre.testBit i=false->bM lo (ev ff) (H (j+e+1))=some v)
theorem wc {P:Program}:∀{l:List aK} {j:Nat} {ah:List (Nat×ad)} {ag:br} {K:(Nat->Value)->ad->Prop} {f:Nat->Value} {h:ad},dX P l j ah ag K f h->om P l j ah ag K f h
 | [],j,ah,ag,K,f,h,hi=>
  ⟨λ_=>f,λ_=>h,λ_=>undef,rfl,rfl,hi,⟨λk o hk=>by simp at hk,λk o hk=>by simp at hk,λk o hk=>by simp at hk,λk o hk=>by simp at hk,λe oe k ok lo hk=>by simp at hk,λk ok lo e oe hk=>by simp at hk,λk ok a hk=>by simp at hk⟩,
   λe Hh hm k ok lo hk=>by simp at hk,λi lo ff v hm e oe hk=>by simp at hk⟩
 | o::os,j,ah,ag,K,f,h,hi=>by
  -- the rest,and Pr the first step is laid ahead of it
  have key:∀(v:Value) (h':ad) (gf:List (Nat×ad)) (fT:br),iB o.op.guard f->dX P os (j+1) gf fT K (ba f o.op.dst v) h'->
    (∀p∈ah,p∈gf)->(∀p∈ag,p∈fT)->(o.op.op.aW=true->(j,h)∈gf)->(∀lo,o.op.op=.l lo->cB o.op.guard f=true->(j,lo,f,v)∈fT)->
    (cB o.op.guard f=true->aT P o.op.op f h λu g=>u=v/\g=h')->(cB o.op.guard f=false->v=undef/\h'=h)->
    (∀lo,o.op.op=.l lo->cB o.op.guard f=true->∀e Hh,(e,Hh)∈ah->o.pre.testBit e=false->bM lo (ev f) Hh=some v)->
    (o.op.op.aW=true->∀i lo ff u,(i,lo,ff,u)∈ag->o.pre.testBit i=false->bM lo (ev ff) h'=some u)->
    (∀a,o.op.op=.e (.fl a)->cB o.op.guard f=true->∃u,fE h' v=some u/\(j,.obj (.const v),f,u)∈fT)->
    om P (o::os) j ah ag K f h:=by
   intro v h' gf fT dO JO hh hl hE hL hy hn hp hf iF
   obtain ⟨F,H,V,f1,f2,f3,T,fp,ff⟩:=wc JO
   have over:∀{α:Type} (x:α) (G:Nat->α),∃G2:Nat->α,G2 j=x/\(∀k,G2 (j+k+1)=G (j+1+k))/\∀k,G2 (j+(k+1))=G (j+1+k):=by
    intro α x G
    refine ⟨λk=>if k=j then x else G k,by simp,λk=>?_,λk=>?_⟩
    ·show (if j+k+1=j then x else G (j+k+1))=_
     rw [if_neg (by omega)]
     congr 1
     omega
    ·show (if j+(k+1)=j then x else G (j+(k+1)))=_
     rw [if_neg (by omega)]
     congr 1
     omega
   obtain ⟨F2,jQ,AG,eF⟩:=over f F
   obtain ⟨H2,q9,kF,eH⟩:=over h H
   obtain ⟨V2,lF,O2,eV⟩:=over v V
   have HP:F2 (j+1)=F (j+1):=AG 0
   have ra:H2 (j+1)=H (j+1):=kF 0
   refine ⟨F2,H2,V2,jQ,q9,?_,?_,?_,?_⟩
   ·rw [length_cons,eF,eH]
    exact f3
   ·constructor
    ·intro k ok hk
     cases k with
     | zero=>
      simp at hk;subst hk
      simp only [add_zero]
      rw [HP,jQ,lF]
      exact f1
     | succ k=>
      have:=T.lg k ok (by simpa using hk)
      rw [AG,eF,eV,show j+1+(k+1)=j+1+k+1 by omega]
      exact this
    ·intro k ok hk
     cases k with
     | zero=>
      simp at hk;subst hk
      simp only [add_zero]
      rw [jQ]
      exact dO
     | succ k=>
      rw [eF]
      exact T.va k ok (by simpa using hk)
    ·intro k ok hk hw
     cases k with
     | zero=>
      simp at hk;subst hk
      simp only [add_zero] at hw⊢
      rw [jQ] at hw
      rw [ra,jQ,q9,lF,f2]
      exact hy hw
     | succ k=>
      rw [eF] at hw
      rw [kF,eF,eH,eV,show j+1+(k+1)=j+1+k+1 by omega]
      exact T.yes k ok (by simpa using hk) hw
    ·intro k ok hk hw
     cases k with
     | zero=>
      simp at hk;subst hk
      simp only [add_zero] at hw⊢
      rw [jQ] at hw
      rw [ra,q9,lF,f2]
      exact hn hw
     | succ k=>
      rw [eF] at hw
      rw [kF,eH,eV,show j+1+(k+1)=j+1+k+1 by omega]
      exact T.no k ok (by simpa using hk) hw
    ·intro e oe k ok lo he bQ hk bJ hw hlt ck
     cases k with
     | zero=>omega
     | succ k=>
      rw [eF] at hw⊢
      rw [eV]
      cases e with
      | zero=>
       simp at he;subst he
       simp only [add_zero] at ck⊢
       rw [q9]
       exact fp j h (hE bQ) k ok lo (by simpa using hk) bJ hw ck
      | succ e=>
       rw [eH]
       rw [show j+(e+1)=j+1+e by omega] at ck
       exact T.past e oe k ok lo (by simpa using he) bQ (by simpa using hk) bJ hw (by omega) ck
    ·intro k ok lo e oe hk bJ hw he bQ hlt ck
     cases e with
     | zero=>omega
     | succ e=>
      rw [kF,show j+1+(e+1)=j+1+e+1 by omega]
      cases k with
      | zero=>
       simp at hk;subst hk
       simp only [add_zero] at hw ck⊢
       rw [jQ] at hw⊢
       rw [lF]
       exact ff j lo f v (hL lo bJ hw) e oe (by simpa using he) bQ ck
      | succ k=>
       rw [eF] at hw⊢
       rw [eV]
       rw [show j+(k+1)=j+1+k by omega] at ck
       exact T.u0 k ok lo e oe (by simpa using hk) bJ hw (by simpa using he) bQ (by omega) ck
    ·intro k ok a hk aQ hw
     cases k with
     | zero=>
      simp at hk;subst hk
      simp only [add_zero] at hw⊢
      rw [jQ] at hw
      obtain ⟨u,u1,u2⟩:=iF a aQ hw
      refine ⟨u,by rw [ra,lF,f2];exact u1,?_⟩
      intro e oe he bQ hlt ck
      cases e with
      | zero=>omega
      | succ e=>
       rw [kF,show j+1+(e+1)=j+1+e+1 by omega,lF]
       exact ff j (.obj (.const v)) f u u2 e oe (by simpa using he) bQ ck
     | succ k=>
      rw [eF] at hw
      obtain ⟨u,u1,u2⟩:=T.AX k ok a (by simpa using hk) aQ hw
      refine ⟨u,by rw [kF,eV,show j+1+(k+1)=j+1+k+1 by omega];exact u1,?_⟩
      intro e oe he bQ hlt ck
      cases e with
      | zero=>omega
      | succ e=>
       rw [kF,show j+1+(e+1)=j+1+e+1 by omega,eV]
       rw [show j+(k+1)=j+1+k by omega] at ck
       exact u2 e oe (by simpa using he) bQ (by omega) ck
   ·intro e Hh hm k ok lo hk bJ hw ck
    cases k with
    | zero=>
     simp at hk;subst hk
     simp only [add_zero] at hw⊢
     rw [jQ] at hw⊢
     rw [lF]
     exact hp lo bJ hw e Hh hm ck
    | succ k=>
     rw [eF] at hw⊢
     rw [eV]
     exact fp e Hh (hh _ hm) k ok lo (by simpa using hk) bJ hw ck
   ·intro i lo AQ u hm e oe he bQ ck
    cases e with
    | zero=>
     simp at he;subst he
     simp only [add_zero]
     rw [ra,f2]
     exact hf bQ i lo AQ u hm ck
    | succ e=>
     rw [kF,show j+1+(e+1)=j+1+e+1 by omega]
     exact ff i lo AQ u (hl _ hm) e oe (by simpa using he) bQ ck
  have go:iB o.op.guard f->cB o.op.guard f=true->dU P o.op.op o.pre j ah ag f h (λah ag v h'=>dX P os (j+1) ah ag K (ba f o.op.dst v) h')->om P (o::os) j ah ag K f h:=λdO hw hd=>by
   have uF:o.op.op.aW=true->(∀a,o.op.op≠ .e (.fl a))->aT P o.op.op f h (λv h'=>ek o.pre h' ag/\dX P os (j+1) (ah++[(j,h)]) ag K (ba f o.op.dst v) h')->om P (o::os) j ah ag K f h:=λhE hX hs=>by
    have Bo:∀lo,o.op.op≠ .l lo:=by intro lo e;rw [e] at hE;cases hE
    have ex:∃v h',aT P o.op.op f h (λu g=>u=v/\g=h')/\ek o.pre h' ag/\dX P os (j+1) (ah++[(j,h)]) ag K (ba f o.op.dst v) h':=by
     generalize o.op.op=io at hs⊢
     cases io with
     | p po=>
      simp only [aT,bH] at hs⊢
      split at hs
      ·exact ⟨_,_,⟨rfl,rfl⟩,hs⟩
      ·exact hs.elim
     | l lo=>
      simp only [aT,bH] at hs⊢
      split at hs
      ·exact ⟨_,_,⟨rfl,rfl⟩,hs⟩
      ·exact hs.elim
     | e eo=>
      simp only [aT,fx] at hs⊢
      split at hs
      ·exact ⟨_,_,⟨rfl,rfl⟩,hs⟩
      ·exact hs.elim
     | call g args=>
      obtain ⟨v,h',hc,hk⟩:=hs
      exact ⟨v,h',⟨v,h',hc,rfl,rfl⟩,hk⟩
     | ej x args=>
      simp only [aT,ji] at hs⊢
      split at hs
      ·obtain ⟨eU,v,h',hc,hk⟩:=hs
       exact ⟨v,h',⟨eU,v,h',hc,rfl,rfl⟩,hk⟩
      ·obtain ⟨eU,v,h',hc,hk⟩:=hs
       exact ⟨v,h',⟨eU,v,h',hc,rfl,rfl⟩,hk⟩
      ·exact hs.elim
    obtain ⟨v,h',s1,s2,s3⟩:=ex
    exact key v h' _ _ dO s3 (λp hp=>by simp [hp]) (λp hp=>hp) (λ_=>by simp) (λlo e=>absurd e (Bo lo)) (λ_=>s1) (λhf=>by rw [hw] at hf;cases hf) (λlo e=>absurd e (Bo lo))
     (λ_ i lo ff u hm ck=>oE s2 i lo ff u hm ck) (λa e=>absurd e (hX a))
   cases aQ:o.op.op with
   | p po=>
    rw [aQ] at hd
    simp only [dU,bH] at hd
    split at hd
    ·rename_i v hv
     exact key v h _ _ dO hd (λp hp=>hp) (λp hp=>hp) (λhE=>by rw [aQ] at hE;cases hE) (λlo e=>by rw [aQ] at e;cases e) (λ_=>by rw [aQ];simp [aT,bH,hv]) (λhf=>by rw [hw] at hf;cases hf)
      (λlo e=>by rw [aQ] at e;cases e) (λhE=>by rw [aQ] at hE;cases hE) (λa e=>by rw [aQ] at e;cases e)
    ·exact hd.elim
   | l lo=>
    rw [aQ] at hd
    simp only [dU,bH] at hd
    split at hd
    ·rename_i v hv
     exact key v h _ _ dO hd.2 (λp hp=>hp) (λp hp=>by simp [hp]) (λhE=>by rw [aQ] at hE;cases hE) (λfS e _=>by rw [aQ] at e;cases e;simp) (λ_=>by rw [aQ];simp [aT,bH,hv]) (λhf=>by rw [hw] at hf;cases hf)
      (λfS e _ e' Hh hm ck=>by rw [aQ] at e;cases e;exact uw hd.1 e' Hh hm ck) (λhE=>by rw [aQ] at hE;cases hE) (λa e=>by rw [aQ] at e;cases e)
    ·exact hd.elim
   | e eo=>
    cases eo with
    | fl a=>
     rw [aQ] at hd
     simp only [dU,fx] at hd
     split at hd
     ·rename_i v h' hv
      simp only [bH] at hd
      split at hd
      ·rename_i u hu
       exact key v h' _ _ dO hd.2 (λp hp=>by simp [hp]) (λp hp=>by simp [hp]) (λ_=>by simp) (λlo e=>by rw [aQ] at e;cases e) (λ_=>by rw [aQ];simp [aT,fx,hv]) (λhf=>by rw [hw] at hf;cases hf)
        (λlo e=>by rw [aQ] at e;cases e) (λ_ i lo ff u hm ck=>oE hd.1 i lo ff u hm ck) (λa' _ _=>⟨u,hu,by simp⟩)
      ·exact hd.elim
     ·exact hd.elim
    | _=>exact uF (by rw [aQ];rfl) (λa e=>by rw [aQ] at e;cases e) (by rw [aQ] at hd⊢;exact hd)
   | call g args=>exact uF (by rw [aQ];rfl) (λa e=>by rw [aQ] at e;cases e) (by rw [aQ] at hd⊢;exact hd)
   | ej x args=>exact uF (by rw [aQ];rfl) (λa e=>by rw [aQ] at e;cases e) (by rw [aQ] at hd⊢;exact hd)
  have skip:iB o.op.guard f->cB o.op.guard f=false->kE o.op.op o.pre j ah ag h (λah ag v h'=>dX P os (j+1) ah ag K (ba f o.op.dst v) h')->om P (o::os) j ah ag K f h:=λdO hw hd=>by
   unfold kE at hd
   split at hd
   ·rename_i hE
    exact key undef h _ _ dO hd (λp hp=>hp) (λp hp=>hp) (λbQ=>by rw [hE] at bQ;cases bQ) (λlo _ hf=>by rw [hw] at hf;cases hf) (λhf=>by rw [hw] at hf;cases hf) (λ_=>⟨rfl,rfl⟩)
     (λlo _ hf=>by rw [hw] at hf;cases hf) (λbQ=>by rw [hE] at bQ;cases bQ) (λa _ hf=>by rw [hw] at hf;cases hf)
   ·rename_i hE
    exact key undef h _ _ dO hd.2 (λp hp=>by simp [hp]) (λp hp=>hp) (λ_=>by simp) (λlo _ hf=>by rw [hw] at hf;cases hf) (λhf=>by rw [hw] at hf;cases hf) (λ_=>⟨rfl,rfl⟩)
     (λlo _ hf=>by rw [hw] at hf;cases hf) (λ_ i lo ff u hm ck=>oE hd.1 i lo ff u hm ck) (λa _ hf=>by rw [hw] at hf;cases hf)
  simp only [dX] at hi
  split at hi
  ·rename_i dP
   exact go (by rw [dP];trivial) (by rw [dP];rfl) hi
  ·rename_i s b dP
   obtain ⟨e1,e2⟩:=rl hi
   rcases e2 with ⟨e2,e3⟩ | ⟨e2,e3⟩
   ·exact go (by rw [dP];exact e1) (by rw [dP];exact e2) e3
   ·exact skip (by rw [dP];exact e1) (by rw [dP];exact e2) e3
def jk (g:Option (Nat×Bool)) (l:List dE):List aK:=l.map λo=>⟨⟨o.dst,o.op,g⟩,o.pre⟩
def jl:List (Option (Nat×Bool)×List dE)->List aK
 | []=>[]
 | (g,l)::gs=>jk g l++jl gs
theorem uC:∀os:List aK,jl (kD os)=os
 | []=>rfl
 | o::os=>by
  have ih:=uC os
  simp only [kD]
  cases hg:kD os with
  | nil=>
   rw [hg] at ih
   simp only [jl] at ih
   subst ih
   simp [jl,jk]
  | cons a gs=>
   obtain ⟨g,l⟩:=a
   rw [hg] at ih
   simp only
   split
   ·rename_i he
    simp only [jl,jk,map_cons,cons_append] at ih⊢
    rw [ih,<-he]
   ·simp only [jl,jk,map_cons,List.map_nil,cons_append,List.nil_append] at ih⊢
    rw [ih]
theorem Hm {l:List aK} (h:l.all (λo=>leaves o.op.guard o.op.dst)=true):∀g m,(g,m)∈kD l->∀o∈m,leaves g o.dst=true:=by
 intro g m hm o ho
 have eu:(⟨⟨o.dst,o.op,g⟩,o.pre⟩:aK)∈jl (kD l):=by
  generalize kD l=gs at hm
  induction gs with
  | nil=>simp at hm
  | cons a gs ih=>
   obtain ⟨g',m'⟩:=a
   simp only [jl,List.mem_append]
   rcases mem_cons.1 hm with he | hm
   ·cases he
    left
    simp only [jk,List.mem_map]
    exact ⟨o,ho,rfl⟩
   ·exact .inr (ih hm)
 rw [uC] at eu
 rw [all_eq_true] at h
 exact h _ eu
theorem AB {P:Program} {io:cL} {pre j:Nat} {ah:List (Nat×ad)} {ag:br} {f:Nat->Value} {h:ad} {K K':List (Nat×ad)->br->Value->ad->Prop} (hm:∀a b v h,K a b v h->K' a b v h)
  (hs:dU P io pre j ah ag f h K):dU P io pre j ah ag f h K':=by
 cases io with
 | p po=>simp only [dU,bH] at hs⊢;split at hs <;> first | exact hm _ _ _ _ hs | exact hs.elim
 | l lo=>simp only [dU,bH] at hs⊢;split at hs <;> first | exact ⟨hs.1,hm _ _ _ _ hs.2⟩ | exact hs.elim
 | e eo=>
  cases eo with
  | fl a=>
   simp only [dU,fx,bH] at hs⊢
   split at hs
   ·split at hs <;> first | exact ⟨hs.1,hm _ _ _ _ hs.2⟩ | exact hs.elim
   ·exact hs.elim
  | _=>simp only [dU,fx] at hs⊢;split at hs <;> first | exact ⟨hs.1,hm _ _ _ _ hs.2⟩ | exact hs.elim
 | call g args=>exact h9.mono hs λv h hk=>⟨hk.1,hm _ _ _ _ hk.2⟩
 | ej x args=>simp only [dU,ji] at hs⊢;split at hs <;> first | exact ⟨hs.1,hs.2.mono λv h hk=>⟨hk.1,hm _ _ _ _ hk.2⟩⟩ | exact hs.elim
theorem AA {io:cL} {pre j:Nat} {ah:List (Nat×ad)} {ag:br} {h:ad} {K K':List (Nat×ad)->br->Value->ad->Prop} (hm:∀a b v h,K a b v h->K' a b v h)
  (hs:kE io pre j ah ag h K):kE io pre j ah ag h K':=by
 unfold kE at hs⊢
 split at hs
 ·exact hm _ _ _ _ hs
 ·exact ⟨hs.1,hm _ _ _ _ hs.2⟩
theorem xQ {f:Nat->Value} {d:Option Nat} {s:Nat} (hd:d≠some s) (v:Value):ba f d v s=f s:=by
 cases ho:d with
 | none=>rfl
 | some x=>
  have:s≠x:=by rintro rfl;exact hd ho
  simp [ba,iY,this]
theorem AY {P:Program} {g:Option (Nat×Bool)} {r:List aK} {K:(Nat->Value)->ad->Prop}:∀{l:List dE} {j:Nat} {ah:List (Nat×ad)} {ag:br} {f:Nat->Value} {h:ad},(∀o∈l,leaves g o.dst=true)->
  (∀s b,g=some (s,b)->kf (f s)=false/\gT (f s) b=true)->
  fM P l j ah ag (λah ag f h=>dX P r (j+l.length) ah ag K f h) f h->dX P (jk g l++r) j ah ag K f h:=by
 intro l
 induction l with
 | nil=>intro j ah ag f h _ _ hk;exact hk
 | cons o l ih=>
  intro j ah ag f h hl hg hk
  simp only [fM] at hk
  simp only [jk,map_cons,cons_append,dX]
  have step:dU P o.op o.pre j ah ag f h λah ag v h'=>dX P (jk g l++r) (j+1) ah ag K (ba f o.dst v) h':=by
   refine AB (λa b v h' bG=>?_) hk
   refine ih (λo' bm=>hl o' (by simp [bm])) ?_ ?_
   ·intro s bb hs
    have hd:o.dst≠some s:=by have:=hl o (by simp);rw [hs] at this;simpa [leaves] using this
    rw [xQ hd]
    exact hg s bb hs
   ·rw [length_cons] at bG
    rw [show j+1+l.length=j+(l.length+1) by omega]
    exact bG
  cases dP:g with
  | none=>rw [dP] at step;exact step
  | some sb=>
   obtain ⟨s,b⟩:=sb
   obtain ⟨e1,e2⟩:=hg s b dP
   rw [dP] at step
   exact vd e1 (λ_=>step) (λh=>by rw [e2] at h;cases h)
theorem Iw {P:Program} {s:Nat} {b:Bool} {r:List aK} {K:(Nat->Value)->ad->Prop}:∀{l:List dE} {j:Nat} {ah:List (Nat×ad)} {ag:br} {f:Nat->Value} {h:ad},(∀o∈l,leaves (some (s,b)) o.dst=true)->
  kf (f s)=false->gT (f s) b=false->
  jW l j ah ag (λah ag f h=>dX P r (j+l.length) ah ag K f h) f h->dX P (jk (some (s,b)) l++r) j ah ag K f h:=by
 intro l
 induction l with
 | nil=>intro j ah ag f h _ _ _ hk;exact hk
 | cons o l ih=>
  intro j ah ag f h hl e1 e2 hk
  simp only [jW] at hk
  simp only [jk,map_cons,cons_append,dX]
  refine vd e1 (λh=>by rw [e2] at h;cases h) (λ_=>?_)
  refine AA (λa c v h' bG=>?_) hk
  have hd:o.dst≠some s:=by have:=hl o (by simp);simpa [leaves] using this
  refine ih (λo' bm=>hl o' (by simp [bm])) (by rw [xQ hd];exact e1) (by rw [xQ hd];exact e2) ?_
  rw [length_cons] at bG
  rw [show j+1+l.length=j+(l.length+1) by omega]
  exact bG
theorem u6 {P:Program} {K K':List (Nat×ad)->br->(Nat->Value)->ad->Prop} (hm:∀a b f h,K a b f h->K' a b f h):∀{l:List dE} {j:Nat} {ah:List (Nat×ad)} {ag:br} {f:Nat->Value} {h:ad},
  fM P l j ah ag K f h->fM P l j ah ag K' f h
 | [],_,_,_,_,_,hk=>hm _ _ _ _ hk
 | _::_,_,_,_,_,_,hk=>AB (λ_ _ _ _ bG=>u6 hm bG) hk
theorem AZ {K K':List (Nat×ad)->br->(Nat->Value)->ad->Prop} (hm:∀a b f h,K a b f h->K' a b f h):∀{l:List dE} {j:Nat} {ah:List (Nat×ad)} {ag:br} {f:Nat->Value} {h:ad},
  jW l j ah ag K f h->jW l j ah ag K' f h
 | [],_,_,_,_,_,hk=>hm _ _ _ _ hk
 | _::_,_,_,_,_,_,hk=>AA (λ_ _ _ _ bG=>AZ hm bG) hk
theorem Iv {P:Program} {K:(Nat->Value)->ad->Prop}:∀{gs:List (Option (Nat×Bool)×List dE)} {j:Nat} {ah:List (Nat×ad)} {ag:br} {f:Nat->Value} {h:ad},(∀g l,(g,l)∈gs->∀o∈l,leaves g o.dst=true)->
  fL P gs j ah ag K f h->dX P (jl gs) j ah ag K f h:=by
 intro gs
 induction gs with
 | nil=>intro j ah ag f h _ hk;exact hk
 | cons a gs ih=>
  obtain ⟨g,l⟩:=a
  intro j ah ag f h hl hk
  have jt:∀g' l',(g',l')∈gs->∀o∈l',leaves g' o.dst=true:=λg' l' hm=>hl g' l' (by simp [hm])
  simp only [jl]
  cases g with
  | none=>
   simp only [fL] at hk
   exact AY (hl none l (by simp)) (λs b hs=>by cases hs) (u6 (λa b f h bG=>ih jt bG) hk)
  | some sb=>
   obtain ⟨s,b⟩:=sb
   simp only [fL] at hk
   obtain ⟨e1,e2⟩:=rl hk
   rcases e2 with ⟨e2,e3⟩ | ⟨e2,e3⟩
   ·exact AY (hl _ l (by simp)) (λs' b' hs=>by cases hs;exact ⟨e1,e2⟩) (u6 (λa b f h bG=>ih jt bG) e3)
   ·exact Iw (hl _ l (by simp)) e1 e2 (AZ (λa b f h bG=>ih jt bG) e3)
end
section
def bp (V:Nat->Value) (S:List Nat):List aK->Nat->(Nat->Value)->(Nat->Value)
 | [],_,f=>f
 | d::ds,i,f=>bp V S ds (i+1) (if S.contains i then ba f d.op.dst (V i) else f)
theorem kG {V:Nat->Value} {S S':List Nat} {t:Nat}:∀{l:List aK} {i:Nat} {f f':Nat->Value},(∀k d,l[k]?=some d->d.op.dst=some t->(i+k∈S↔i+k∈S'))->f t=f' t->bp V S l i f t=bp V S' l i f' t
 | [],i,f,f',_,hf=>hf
 | d::ds,i,f,f',h,hf=>by
  simp only [bp]
  refine kG (λk d' hk hd=>?_) ?_
  ·have:=h (k+1) d' (by simpa using hk) hd
   rw [show i+(k+1)=i+1+k by omega] at this
   exact this
  ·by_cases hd:d.op.dst=some t
   ·have:=h 0 d rfl hd
    simp only [add_zero] at this
    by_cases hi:i∈S
    ·simp [hi,this.1 hi,hd,ba,iY]
    ·have dc:i∉S':=λh=>hi (this.2 h)
     simp [hi,dc,hf]
   ·have aV:∀v g,ba g d.op.dst v t=g t:=by
     intro v g
     cases oT:d.op.dst with
     | none=>rfl
     | some x=>
      have:t≠x:=by rintro rfl;exact hd oT
      simp [ba,iY,this]
    split <;> split <;> simp [aV,hf]
theorem uZ {V:Nat->Value} {S:List Nat} {t:Nat}:∀{l:List aK} {i:Nat} {f:Nat->Value} {k:Nat} {d:aK},l[k]?=some d->d.op.dst=some t->i+k∈S->
  (∀k' d',l[k']?=some d'->d'.op.dst=some t->k<k'->i+k'∉S)->bp V S l i f t=V (i+k)
 | [],i,f,k,d,hk,_,_,_=>by simp at hk
 | d0::ds,i,f,k,d,hk,hd,hS,o0=>by
  simp only [bp]
  cases k with
  | zero=>
   simp at hk;subst hk
   simp only [add_zero] at hS⊢
   have:bp V S ds (i+1) (if S.contains i=true then ba f d0.op.dst (V i) else f) t=bp V [] ds (i+1) (if S.contains i=true then ba f d0.op.dst (V i) else f) t:=by
    refine kG (λk' d' bG j4=>?_) rfl
    have:=o0 (k'+1) d' (by simpa using bG) j4 (by omega)
    rw [show i+(k'+1)=i+1+k' by omega] at this
    simp [this]
   rw [this]
   have j9:∀(l:List aK) (i:Nat) (f:Nat->Value),bp V [] l i f=f:=by
    intro l
    induction l with
    | nil=>intro i f;rfl
    | cons a l ih=>intro i f;simp [bp,ih]
   rw [j9]
   simp [hS,hd,ba,iY]
  | succ k=>
   have:=uZ (V:=V) (S:=S) (l:=ds) (i:=i+1) (f:=if S.contains i=true then ba f d0.op.dst (V i) else f) (k:=k) (d:=d) (by simpa using hk) hd (by rw [show i+1+k=i+(k+1) by omega];exact hS) (by
    intro k' d' bG j4 hlt
    have:=o0 (k'+1) d' (by simpa using bG) j4 (by omega)
    rw [show i+(k'+1)=i+1+k' by omega] at this
    exact this)
   rw [this]
   congr 1
   omega
theorem oO {P:Program} {l:List aK} {F:Nat->Nat->Value} {H:Nat->ad} {V:Nat->Value} (T:Trace P l 0 F H V):∀(r:List aK) (i:Nat) (S:List Nat) (j:Nat),(∀k,r[k]?=l[i+k]?)->(∀k,k∈S↔k<j)->i<=j->j<=i+r.length->
  bp V S r i (F i)=F j
 | [],i,S,j,_,_,h1,h2=>by
  simp at h2
  obtain rfl:i=j:=by omega
  rfl
 | d::r,i,S,j,hr,hS,h1,h2=>by
  simp only [bp]
  have h0:=hr 0
  simp only [List.getElem?_cons_zero,add_zero] at h0
  have hu:=T.lg i d h0.symm
  simp only [zero_add] at hu
  by_cases gh:i<j
  ·have:i∈S:=(hS i).2 gh
   simp only [List.contains_eq_mem,this,decide_true,if_true]
   rw [<-hu]
   exact oO T r (i+1) S j (λk=>by have:=hr (k+1);rw [show i+(k+1)=i+1+k by omega] at this;simpa using this) hS (by omega) (by simp at h2;omega)
  ·obtain rfl:i=j:=by omega
   have Jr:i∉S:=λh=>by have:=(hS i).1 h;omega
   simp only [List.contains_eq_mem,Jr,decide_false,Bool.false_eq_true,if_false]
   have JZ:∀(r:List aK) (k:Nat) (f:Nat->Value),i<=k->bp V S r k f=f:=by
    intro r
    induction r with
    | nil=>intro k f _;rfl
    | cons a r ih=>
     intro k f hk
     have:k∉S:=λh=>by have:=(hS k).1 h;omega
     simp [bp,this,ih (k+1) f (by omega)]
   exact JZ r (i+1) _ (by omega)
def n7 (es:List (List Nat)) (S:List Nat):Prop:=∀j e,j∈S->e∈(es.getD j [])->e∈S
theorem DJ {gn:List Nat}:∀{es:List Nat} {i:Nat},(km gn es).testBit i=true->∃e∈es,i=e∨(gn.getD e 0).testBit i=true
 | [],i,h=>by simp [km] at h
 | e::es,i,h=>by
  simp only [km,Nat.testBit_or,or_eq_true] at h
  rcases h with (h | h) | h
  ·refine ⟨e,by simp,.inl ?_⟩
   rw [Nat.testBit_two_pow] at h
   exact (by simpa using h:e=i).symm
  ·exact ⟨e,by simp,.inr h⟩
  ·obtain ⟨e',h1,h2⟩:=DJ h
   exact ⟨e',by simp [h1],h2⟩
theorem G7:∀{es:List (List Nat)} {acc:List Nat} {all:List (List Nat)},(∀k,es[k]?=all[acc.length+k]?)->(∀j i,j<acc.length->(acc.getD j 0).testBit i=true->∃e∈all.getD j [],i=e∨((db es acc).getD e 0).testBit i=true)->
  (∀j i,((db es acc).getD j 0).testBit i=true->∃e∈all.getD j [],i=e∨((db es acc).getD e 0).testBit i=true):=by
 intro es
 induction es with
 | nil=>
  intro acc all _ hacc j i h
  simp only [db] at h⊢hacc
  by_cases hj:j<acc.length
  ·exact hacc j i hj h
  ·have:acc.getD j 0=0:=by simp [getD,le_of_not_lt hj]
   rw [this] at h
   simp at h
 | cons e0 es ih=>
  intro acc all dt hacc j i h
  simp only [db] at h⊢hacc
  have kV:∀(es:List (List Nat)) (acc:List Nat) (k:Nat),k<acc.length->(db es acc).getD k 0=acc.getD k 0:=by
   intro es
   induction es with
   | nil=>intro acc k _;rfl
   | cons a es Ku=>
    intro acc k hk
    simp only [db]
    rw [Ku _ k (by simp;omega)]
    simp [getD,getElem?_append_left hk]
  refine ih (acc:=acc++[km acc e0]) (all:=all) ?_ ?_ j i h
  ·intro k
   have:=dt (k+1)
   simp only [List.getElem?_cons_succ] at this
   rw [this]
   congr 1
   simp
   omega
  ·intro j' i' iG hb
   by_cases hlt:j'<acc.length
   ·rw [show (acc++[km acc e0]).getD j' 0=acc.getD j' 0 by simp [getD,getElem?_append_left hlt]] at hb
    exact hacc j' i' hlt hb
   ·obtain rfl:j'=acc.length:=by simp at iG;omega
    rw [show (acc++[km acc e0]).getD acc.length 0=km acc e0 by simp [getD]] at hb
    obtain ⟨e,h1,h2⟩:=DJ hb
    have h0:=dt 0
    simp only [List.getElem?_cons_zero,add_zero] at h0
    refine ⟨e,by simp [getD,<-h0,h1],?_⟩
    rcases h2 with h2 | h2
    ·exact .inl h2
    ·right
     have I3:e<acc.length:=by
      apply byContradiction
      intro eI
      have:acc.getD e 0=0:=by simp [getD,le_of_not_lt eI]
      rw [this] at h2
      simp at h2
     rw [kV _ _ _ (by simp;omega)]
     simpa [getD,getElem?_append_left I3] using h2
theorem sB {es:List (List Nat)} {S:List Nat} (hS:n7 es S) (lU:∀j e,e∈es.getD j []->e<j):∀(j i:Nat),(∀e∈es.getD j [],e∈S)->((db es []).getD j 0).testBit i=true->i∈S:=by
 intro j
 induction j using Nat.strongRecOn with
 | _ j ih=>
  intro i he hb
  obtain ⟨e,h1,h2⟩:=G7 (es:=es) (acc:=[]) (all:=es) (λk=>by simp) (λj i hj=>by simp at hj) j i hb
  rcases h2 with rfl | h2
  ·exact he _ h1
  ·exact ih e (lU j e h1) i (λe' cX=>hS e e' (he e h1) cX) h2
end
section
section
variable {P : Program} {N : Nat}
theorem tl {l:List aK} {F:Nat->Nat->Value} {H:Nat->ad} {V:Nat->Value} (T:Trace P l 0 F H V) {i:Nat}:∀(d:Nat),i+d<=l.length->(∀e oe,l[e]?=some oe->oe.op.op.aW=true->¬(i<=e/\e<i+d))->H (i+d)=H i
 | 0,_,_=>rfl
 | d+1,hl,hE=>by
  have ih:=tl T d (by omega) (λe oe h1 h2 h3=>hE e oe h1 h2 ⟨h3.1,by omega⟩)
  have hlt:i+d<l.length:=by omega
  have aA:l[i+d]?=some l[i+d]:=getElem?_eq_getElem hlt
  have rJ:l[i+d].op.op.aW=false:=by
   cases hq:l[i+d].op.op.aW with
   | false=>rfl
   | true=>exact absurd ⟨by omega,by omega⟩ (hE (i+d) _ aA hq)
  rw [show i+(d+1)=i+d+1 by omega]
  rw [<-ih]
  have hy:=T.yes (i+d) _ aA
  have hn:=T.no (i+d) _ aA
  simp only [zero_add] at hy hn
  cases hw:cB l[i+d].op.guard (F (i+d)) with
  | false=>exact (hn hw).2
  | true=>
   have hs:=hy hw
   generalize l[i+d].op.op=io at hs rJ
   cases io with
   | p po=>
    simp only [aT,bH] at hs
    split at hs
    ·exact hs.2.symm
    ·exact hs.elim
   | l lo=>
    simp only [aT,bH] at hs
    split at hs
    ·exact hs.2.symm
    ·exact hs.elim
   | e eo=>cases rJ
   | call g args=>cases rJ
   | ej x args=>cases rJ
theorem hK {l:List aK} {F:Nat->Nat->Value} {H:Nat->ad} {V:Nat->Value} (T:Trace P l 0 F H V) {i k:Nat} (Pj:i<=k) (hk:k<=l.length) (hE:∀e oe,l[e]?=some oe->oe.op.op.aW=true->¬(i<=e/\e<k)):H k=H i:=by
 have:=tl T (i:=i) (k-i) (by omega) (λe oe h1 h2 h3=>hE e oe h1 h2 ⟨h3.1,by omega⟩)
 rw [show i+(k-i)=k by omega] at this
 exact this
def tD (l:List aK) (S:List Nat) (m:Nat):Prop:=∀e oe,l[e]?=some oe->oe.op.op.aW=true->(e∈S↔e<m)
theorem pR {l:List aK} (h:sv l=true) {i j:Nat} {oi oj:aK} (hi:l[i]?=some oi) (hj:l[j]?=some oj):nS oj j oi i=true:=by
 unfold sv at h
 rw [all_eq_true] at h
 have h1:=h (oj,j) (List.mem_zipIdx_iff_getElem?.2 hj)
 simp only at h1
 rw [all_eq_true] at h1
 exact h1 (oi,i) (List.mem_zipIdx_iff_getElem?.2 hi)
theorem Dx {oi oj:aK} {i j t:Nat} (h:nS oj j oi i=true) (aV:i≠j) (hd:oi.op.dst=some t) (ht:jE oj t=true):(if i<j then oj.pre.testBit i else oi.pre.testBit j)=true:=by
 unfold nS at h
 rw [hd] at h
 simp only [and_eq_true,or_eq_true,beq_iff_eq,ht,Bool.not_true,Bool.false_eq_true,false_or] at h
 rcases h.1 with h | h
 ·exact absurd h aV
 ·exact h
theorem xl {oi oj:aK} {i j:Nat} (h:nS oj j oi i=true) (hlt:i<j) (hi:oi.op.op.aW=true) (hj:oj.op.op.aW=true):oj.pre.testBit i=true:=by
 unfold nS at h
 simp only [and_eq_true,hlt,decide_true,hi,hj,Bool.and_self,Bool.not_true,Bool.false_or] at h
 exact h.2
theorem Hn {ops:Array Oper} {l:List aK} {F:Nat->Nat->Value} {H:Nat->ad} {V:Nat->Value} (T:Trace P l 0 F H V) (hlen:l.length=ops.size)
  (IY:∀(k:Nat) (o:Oper) (d:aK),ops[k]?=some o->l[k]?=some d->lD P N ops o=some d.op)
  (ck:∀k d,l[k]?=some d->d.pre=(db (ops.toList.map bB) []).getD k 0)
  (lU:∀j e,e∈(ops.toList.map bB).getD j []->e<j) (kR:sv l=true) {S r:List Nat} (hv:ly ops S r):
  n7 (ops.toList.map bB) S->(∀i∈S,i<ops.size)->∀m,m<=l.length->tD l S m->∀S' B ρ a w,bA P N B ρ (bp V S l 0 (F 0)) (H m) a w->∀Q:Exit->Act->World->Prop,
   (∀ae a' w',bA P N B ae (F l.length) (H l.length) a' w'->Tr ρ (H m) w ae (H l.length) w'->Q .normal a' w')->wpOpsIn (FR S') 0 P ops Q r a w:=by
 induction hv with
 | nil dt=>
  rename_i S
  intro bI hlt m hm bT S' B ρ a w R Q hq
  have hF:bp V S l 0 (F 0)=F l.length:=by
   have h1:=oO T l 0 (List.range l.length) l.length (λk=>by simp) (λk=>by simp) (by omega) (by omega)
   rw [<-h1]
   funext t
   refine kG (λk d hk _=>?_) rfl
   have rE:=(bu hk).1
   simp only [zero_add,mem_range]
   exact ⟨λ_=>rE,λ_=>dt k (by omega)⟩
  have hH:H l.length=H m:=by
   refine hK T hm (le_refl _) ?_
   rintro e oe he hE ⟨h1,h2⟩
   have:=(bT e oe he hE).1 (dt e (by omega))
   omega
  rw [hF] at R
  simp only [wpOpsIn]
  refine hq ρ a w (by rw [hH];exact R) ?_
  rw [hH]
  exact Tr.refl R.heap
 | cons ka iJ lZ Kc ih=>
  rename_i S j o r
  intro bI hlt m hm bT S' B ρ a w R Q hq
  have nz:j<ops.size:=(Array.getElem?_eq_some_iff.1 ka).1
  have aA:l[j]?=some (l[j]'(by omega)):=getElem?_eq_getElem _
  generalize I0:l[j]'(by omega)=d at aA
  have hc:=IY j o d ka aA
  obtain ⟨q1,q2,q3,q4,q5⟩:=qX hc
  have dV:(ops.toList.map bB).getD j []=bB o:=by
   simp [getD,ka]
  have jq:n7 (ops.toList.map bB) (j::S):=by
   intro k e hk he
   rcases mem_cons.1 hk with rfl | hk
   ·rw [dV] at he
    exact mem_cons_of_mem _ (lZ e he)
   ·exact mem_cons_of_mem _ (bI k e hk he)
  have before:∀i,d.pre.testBit i=true->i∈S:=by
   intro i hb
   rw [ck j d aA] at hb
   exact sB bI lU j i (by rw [dV];exact lZ) hb
  have behind:∀k dk,l[k]?=some dk->dk.pre.testBit j=true->k∉S:=by
   intro k dk hk hb oZ
   rw [ck k dk hk] at hb
   exact iJ (sB bI lU k j (λe he=>bI k e oZ he) hb)
  have slot:∀t,jE d t=true->bp V S l 0 (F 0) t=F j t:=by
   intro t ht
   have h1:=oO T l 0 (List.range j) j (λk=>by simp) (λk=>by simp) (by omega) (by omega)
   rw [<-h1]
   refine kG (λk dk hk lY=>?_) rfl
   simp only [zero_add,mem_range]
   by_cases j7:k=j
   ·subst j7
    exact ⟨λh=>absurd h iJ,λh=>absurd h (Nat.lt_irrefl _)⟩
   ·have hp:=Dx (pR kR hk aA) j7 lY ht
    by_cases du:k<j
    ·rw [if_pos du] at hp
     exact ⟨λ_=>du,λ_=>before k hp⟩
    ·rw [if_neg du] at hp
     exact ⟨λh=>absurd h (behind k dk hk hp),λh=>absurd h du⟩
  have me:∀t∈d.op.reads,bp V S l 0 (F 0) t=F j t:=λt ht=>slot t (by simp [jE,ht])
  have nA:∀t∈tmpsOf d.op.op.cp,bp V S l 0 (F 0) t=F j t:=λt ht=>me t (by simp [cD.reads,ht])
  have px:cB d.op.guard (bp V S l 0 (F 0))=cB d.op.guard (F j):=by
   cases hg:d.op.guard with
   | none=>rfl
   | some sb=>
    obtain ⟨s,b⟩:=sb
    simp only [cB]
    rw [me s (by simp [cD.reads,hg])]
  have vo:iB d.op.guard (bp V S l 0 (F 0)):=by
   have:=T.va j d aA
   simp only [zero_add] at this
   cases hg:d.op.guard with
   | none=>trivial
   | some sb=>
    obtain ⟨s,b⟩:=sb
    rw [hg] at this
    simp only [iB] at this⊢
    rw [me s (by simp [cD.reads,hg])]
    exact this
  have py:=td q4 R vo
  have gN:bp V (j::S) l 0 (F 0)=ba (bp V S l 0 (F 0)) o.dst (V j):=by
   rw [<-q5]
   funext t
   by_cases iE:d.op.dst=some t
   ·have h1:=uZ (V:=V) (S:=j::S) (l:=l) (i:=0) (f:=F 0) (k:=j) (d:=d) aA iE (by simp) (by
     intro k' d' bG j4 du
     have hp:=Dx (pR kR bG aA) (by omega) j4 (by simp [jE,iE])
     rw [if_neg (by omega)] at hp
     have:=behind k' d' bG hp
     simp only [zero_add,mem_cons,not_or]
     exact ⟨by omega,this⟩)
    rw [h1]
    simp [iE,ba,iY]
   ·have h1:bp V (j::S) l 0 (F 0) t=bp V S l 0 (F 0) t:=by
     refine kG (λk dk hk lY=>?_) rfl
     have j7:k≠j:=by
      rintro rfl
      rw [aA] at hk
      cases hk
      exact iE lY
     simp [j7]
    rw [h1]
    cases oT:d.op.dst with
    | none=>rfl
    | some x=>
     have:t≠x:=by rintro rfl;exact iE oT
     simp [ba,iY,this]
  have hlt2:∀i∈j::S,i<ops.size:=by
   intro i hi
   rcases mem_cons.1 hi with rfl | hi
   ·exact nz
   ·exact hlt i hi
  -- the pY,where the Lw writes memory
  have pZ:d.op.op.aW=true->H m=H j/\tD l (j::S) (j+1):=by
   intro hE
   have gM:m<=j:=by
    apply byContradiction
    intro h
    exact iJ ((bT j d aA hE).2 (by omega))
   refine ⟨?_,?_⟩
   ·refine (hK T gM (by omega) ?_).symm
    rintro e oe he eG ⟨h1,h2⟩
    have hb:=xl (pR kR he aA) h2 eG hE
    have:=(bT e oe he eG).1 (before e hb)
    omega
   ·intro e oe he eG
    rcases Nat.lt_trichotomy e j with du | rfl | l5
    ·have hb:=xl (pR kR he aA) du eG hE
     exact ⟨λ_=>by omega,λ_=>mem_cons_of_mem _ (before e hb)⟩
    ·exact ⟨λ_=>by omega,λ_=>by simp⟩
    ·have hb:=xl (pR kR aA he) l5 hE eG
     have:=behind e oe he hb
     constructor
     ·intro h
      rcases mem_cons.1 h with h | h
      ·omega
      ·exact absurd h this
     ·intro h;omega
  have nW:d.op.op.aW=false->tD l (j::S) m:=by
   intro hE e oe he eG
   have aV:e≠j:=by
    rintro rfl
    rw [aA] at he
    cases he
    rw [hE] at eG
    cases eG
   rw [<-bT e oe he eG]
   simp [aV]
  have dG:=T.yes j d aA
  have aP:=T.no j d aA
  simp only [zero_add] at dG aP
  simp only [wpOpsIn,ka]
  by_cases hw:cB d.op.guard (F j)=true
  ·rw [if_pos (by rw [py,px,hw])]
   have hs:=dG hw
   by_cases hE:d.op.op.aW=true
   ·obtain ⟨e1,e2⟩:=pZ hE
    rw [<-sT nA,<-e1] at hs
    obtain ⟨v,h',st,hv,hh⟩:=nR (N:=N) q3 q1 hs
    subst hv
    subst hh
    refine st S' B ρ a w R _ _ ?_
    intro ae v' w' kb HH TT
    have R':=R.ko q2 TT kb HH
    rw [<-gN] at R'
    exact ih jq hlt2 (j+1) (by omega) e2 S' B ae _ w' R' Q λfA jM ez iy kz=>hq fA jM ez iy (TT.trans kz)
   ·have bQ:d.op.op.aW=false:=by simpa using hE
    -- Og is looked at has one value at this pY and in the PL order
    have fm:aT P d.op.op (bp V S l 0 (F 0)) (H m) λv h'=>v=V j/\h'=H m:=by
     rw [sT nA]
     cases aQ:d.op.op with
     | p po=>
      rw [aQ] at hs
      simp only [aT,bH] at hs⊢
      split at hs
      ·exact ⟨hs.1,trivial⟩
      ·exact hs.elim
     | l lo=>
      have iM:bM lo (ev (F j)) (H m)=some (V j):=by
       have nC:bM lo (ev (F j)) (H j)=some (V j):=by
        rw [aQ] at hs
        simp only [aT,bH] at hs
        split at hs
        ·rename_i v hv
         rw [hv,hs.1]
        ·exact hs.elim
       rcases Nat.le_total m j with gM | gM
       ·by_cases hex:∃e oe,l[e]?=some oe/\oe.op.op.aW=true/\m<=e/\e<j
        ·-- the least of them
         have key:∀n,(∃e oe,l[e]?=some oe/\oe.op.op.aW=true/\m<=e/\e<j/\e<n)->∃e oe,l[e]?=some oe/\oe.op.op.aW=true/\m<=e/\e<j/\∀e' cQ,l[e']?=some cQ->cQ.op.op.aW=true->¬(m<=e'/\e'<e):=by
          intro n
          induction n with
          | zero=>rintro ⟨e,oe,_,_,_,_,h⟩;omega
          | succ n ke=>
           rintro ⟨e,oe,h1,h2,h3,h4,h5⟩
           by_cases bJ:∃e oe,l[e]?=some oe/\oe.op.op.aW=true/\m<=e/\e<j/\e<n
           ·exact ke bJ
           ·refine ⟨e,oe,h1,h2,h3,h4,?_⟩
            rintro e' cQ k1 k2 ⟨k3,k4⟩
            exact bJ ⟨e',cQ,k1,k2,k3,by omega,by omega⟩
         obtain ⟨e0,mA,g1,g2,g3,g4⟩:=hex
         obtain ⟨e,oe,h1,h2,h3,h4,h5⟩:=key j ⟨e0,mA,g1,g2,g3,g4,g4⟩
         have lS:H e=H m:=hK T h3 (by omega) (λe' cQ k1 k2 k3=>h5 e' cQ k1 k2 k3)
         rw [<-lS]
         have mb:d.pre.testBit e=false:=by
          cases hb:d.pre.testBit e with
          | false=>rfl
          | true=>
           have:=(bT e oe h1 h2).1 (before e hb)
           omega
         have:=T.past e oe j d lo h1 h2 aA aQ (by simpa using hw) h4 (by simpa using mb)
         simpa using this
        ·have lT:H j=H m:=hK T gM (by omega) (λe oe h1 h2 h3=>hex ⟨e,oe,h1,h2,h3⟩)
         rw [<-lT]
         exact nC
       ·by_cases hex:∃e oe,l[e]?=some oe/\oe.op.op.aW=true/\j<=e/\e<m
        ·have key:∀n,(∃e oe,l[e]?=some oe/\oe.op.op.aW=true/\j<=e/\e<m/\m<=e+n)->∃e oe,l[e]?=some oe/\oe.op.op.aW=true/\j<=e/\e<m/\∀e' cQ,l[e']?=some cQ->cQ.op.op.aW=true->¬(e+1<=e'/\e'<m):=by
          intro n
          induction n with
          | zero=>rintro ⟨e,oe,_,_,_,_,h⟩;omega
          | succ n ke=>
           rintro ⟨e,oe,h1,h2,h3,h4,h5⟩
           by_cases bJ:∃e oe,l[e]?=some oe/\oe.op.op.aW=true/\j<=e/\e<m/\m<=e+n
           ·exact ke bJ
           ·refine ⟨e,oe,h1,h2,h3,h4,?_⟩
            rintro e' cQ k1 k2 ⟨k3,k4⟩
            exact bJ ⟨e',cQ,k1,k2,by omega,by omega,by omega⟩
         obtain ⟨e0,mA,g1,g2,g3,g4⟩:=hex
         obtain ⟨e,oe,h1,h2,h3,h4,h5⟩:=key m ⟨e0,mA,g1,g2,g3,g4,by omega⟩
         have aV:e≠j:=by
          rintro rfl
          rw [aA] at h1
          cases h1
          rw [bQ] at h2
          cases h2
         have lS:H m=H (e+1):=hK T (by omega) hm (λe' cQ k1 k2 k3=>h5 e' cQ k1 k2 k3)
         rw [lS]
         have mb:oe.pre.testBit j=false:=by
          cases hb:oe.pre.testBit j with
          | false=>rfl
          | true=>exact absurd ((bT e oe h1 h2).2 h4) (behind e oe h1 hb)
         have:=T.u0 j d lo e oe aA aQ (by simpa using hw) h1 h2 (by omega) (by simpa using mb)
         simpa using this
        ·have lT:H m=H j:=hK T gM hm (λe oe h1 h2 h3=>hex ⟨e,oe,h1,h2,h3⟩)
         rw [lT]
         exact nC
      simp [aT,bH,iM]
     | e eo=>rw [aQ] at bQ;cases bQ
     | call g args=>rw [aQ] at bQ;cases bQ
     | ej x args=>rw [aQ] at bQ;cases bQ
    obtain ⟨v,h',st,hv,hh⟩:=nR (N:=N) q3 q1 fm
    subst hv
    subst hh
    refine st S' B ρ a w R _ _ ?_
    intro ae v' w' kb HH TT
    have R':=R.ko q2 TT kb HH
    rw [<-gN] at R'
    exact ih jq hlt2 m hm (nW bQ) S' B ae _ w' R' Q λfA jM ez iy kz=>hq fA jM ez iy (TT.trans kz)
  ·have mi:cB d.op.guard (F j)=false:=by simpa using hw
   rw [if_neg (by rw [py,px,mi];simp)]
   obtain ⟨n1,n2⟩:=aP mi
   have R':=R.ko q2 (Tr.refl R.heap) (af.undef _) R.heap
   rw [n1] at gN
   rw [<-gN] at R'
   by_cases hE:d.op.op.aW=true
   ·obtain ⟨e1,e2⟩:=pZ hE
    have e3:H (j+1)=H m:=by rw [n2,e1]
    exact ⟨λ_ _=>trivial,ih jq hlt2 (j+1) (by omega) e2 S' B ρ _ w (by rw [e3];exact R') Q λfA jM ez iy kz=>hq fA jM ez iy (by rw [e3] at kz;exact kz)⟩
   ·exact ⟨λ_ _=>trivial,ih jq hlt2 m hm (nW (by simpa using hE)) S' B ρ _ w R' Q hq⟩
theorem yo:∀{ios:List cD} {ps:List Nat},ios.length<=ps.length->(fI ios ps).length=ios.length/\∀(k:Nat) (d:aK),(fI ios ps)[k]?=some d->ios[k]?=some d.op/\d.pre=ps.getD k 0
 | [],ps,_=>⟨by simp [fI],λk d h=>by simp [fI] at h⟩
 | o::ios,[],h=>by simp at h
 | o::ios,p::ps,h=>by
  obtain ⟨h1,h2⟩:=yo (ios:=ios) (ps:=ps) (by simpa using h)
  refine ⟨by simp [fI,h1],?_⟩
  intro k d hk
  cases k with
  | zero=>simp [fI] at hk;subst hk;simp
  | succ k=>
   simp only [fI,List.getElem?_cons_succ] at hk
   obtain ⟨a,b⟩:=h2 k d hk
   exact ⟨by simpa using a,by simpa [getD] using b⟩
theorem qS:∀(es:List (List Nat)) (acc:List Nat),(db es acc).length=acc.length+es.length
 | [],acc=>by simp [db]
 | e::es,acc=>by simp only [db];rw [qS];simp;omega
theorem uz {ops:Array Oper}:∀{os:List Oper} {l:List cD},fc P N ops os=some l->l.length=os.length/\∀(k:Nat) (o:Oper) (x:cD),os[k]?=some o->l[k]?=some x->lD P N ops o=some x
 | [],l,h=>by
  simp [fc] at h
  subst h
  exact ⟨rfl,λk o x hk=>by simp at hk⟩
 | o::os,l,h=>by
  obtain ⟨x,xs,h1,h2,rfl⟩:=oF h
  obtain ⟨e1,e2⟩:=uz h2
  refine ⟨by simp [e1],?_⟩
  intro k o' x' hk hx
  cases k with
  | zero=>simp at hk hx;subst hk;subst hx;exact h1
  | succ k=>exact e2 k o' x' (by simpa using hk) (by simpa using hx)
theorem Kr {out:Bool} {id:Nat} {ops:Array Oper} {l:List aK} {K:(Nat->Value)->ad->Prop} {f:Nat->Value} {h:ad} (hc:ux P N ops=some l) (hi:dX P l 0 [] [] K f h):
  ∃f' h',cr P N out (.region id ops true) f h .normal f' h'/\K f' h':=by
 unfold ux at hc
 split at hc
 ·rename_i ios vr
  split at hc
  ·rename_i lW
   simp at hc
   simp only [and_eq_true] at lW
   obtain ⟨⟨pd,iD⟩,kR⟩:=lW
   rw [hc] at kR
   obtain ⟨g1,g2⟩:=uz vr
   have vv:ios.length<=(db (ops.toList.map bB) []).length:=by rw [qS];simp [g1]
   obtain ⟨z1,z2⟩:=yo vv
   rw [hc] at z1 z2
   have hlen:l.length=ops.size:=by rw [z1,g1];simp
   obtain ⟨F,H,V,f1,f2,f3,T,_,_⟩:=wc hi
   simp only [zero_add] at f3
   refine ⟨F l.length,H l.length,?_,f3⟩
   ·intro S hS B ρ a w R
    refine wpIn_region_draw ?_
    intro t
    have vJ:Region.schedule (P.follows .mixedOrders) ops t=Region.linearise .any ops t:=by
     unfold Region.schedule
     rw [pd]
     simp
    rw [vJ]
    have iM:=B2 iD t
    have lU:∀j e,e∈(ops.toList.map bB).getD j []->e<j:=by
     intro j e he
     by_cases hj:j<ops.size
     ·have hg:ops.toList[j]?=some ops[j]:=by simp [hj]
      have:(ops.toList.map bB).getD j []=bB ops[j]:=by simp [getD,hj]
      rw [this] at he
      have:=qG iD j ops[j] hg e he
      omega
     ·have:(ops.toList.map bB).getD j []=[]:=by simp [getD,le_of_not_lt hj]
      rw [this] at he
      simp at he
    have j9:∀(l:List aK) (i:Nat) (f:Nat->Value),bp V [] l i f=f:=by
     intro l
     induction l with
     | nil=>intro i f;rfl
     | cons a l ih=>intro i f;simp [bp,ih]
    have R1:bA P N B ρ (bp V [] l 0 (F 0)) (H 0) a { w with drawn:=w.drawn+1 }:=by
     rw [j9,f1,f2]
     exact R.mono (Tr.drew R.heap _) (R.heap.drew _)
    refine Hn T hlen ?_ ?_ lU kR iM (λj e hj=>by simp at hj) (λi hi=>by simp at hi) 0 (by omega) (λe oe _ _=>by simp) S B ρ a _ R1 _ ?_
    ·intro k o d hk hd
     exact g2 k o d.op (by simpa using hk) (z2 k d hd).1
    ·intro k d hd
     exact (z2 k d hd).2
    ·intro ae a' w' R' T'
     refine ⟨rfl,ae,R',?_⟩
     have T0:=Tr.drew R.heap (w.drawn+1)
     rw [f2] at T'
     exact T0.trans T'
  ·cases hc
 ·cases hc
end
end
section
section
variable {P : Program} {w : World} {ρ : ai} {h : ad}
theorem av.alloc (H:av P ρ h w) (b:Obj):av P ρ h (w.alloc b)/\Tr ρ h w ρ h (w.alloc b):=by
 have nb:=dm.alloc w b
 refine ⟨⟨?_,H.inj,H.aL⟩,?_⟩
 ·intro i r hi
  obtain ⟨o,ho,hr⟩:=H.obj i r hi
  refine ⟨o,ho,?_⟩
  by_cases hd:o=.dead
  ·subst hd;trivial
  ·exact hr.mono (.refl _) (nb.old (pN H hi ⟨o,ho,hd⟩))
 ·exact {
   ext:=.refl _
   len:=le_refl _
   cW:=λi r hi=>H.lt hi
   kinds:=λi _ hm=>hm
   fresh:=λi s h1 h2=>by rw [h1] at h2;cases h2
   cu:=by rw [nb.size];omega
   cq:=λk hk _=>nb.old hk
   os:=nb.os
   tape:=nb.tape
   output:=nb.output }
theorem mD {l k:Nat} {o:Obj} (hk:k≠l):(w.putObj l o).heap[k]?=w.heap[k]?:=World.putObj_heap_other hk
theorem av.put (H:av P ρ h w) {l:Nat} (aP:∀j s,ρ j=some s->s.aD=l->¬bC h j) (o:Obj):av P ρ h (w.putObj l o):=by
 refine ⟨?_,H.inj,H.aL⟩
 intro i r hi
 obtain ⟨o',ho,hr⟩:=H.obj i r hi
 refine ⟨o',ho,?_⟩
 by_cases hd:o'=.dead
 ·subst hd;trivial
 ·refine hr.mono (.refl _) (mD ?_)
  intro e
  exact aP i r hi e ⟨o',ho,hd⟩
theorem av.BO (H:av P ρ h w) {l:Nat} {rec:Loop} (hl:w.heap[l]?=some (.loop rec)) {j:Nat} {s:RI} (hj:ρ j=some s) (hs:s.aD=l) (hv:bC h j):∃c ls vs,h[j]?=some (.loop c ls vs):=by
 obtain ⟨o,ho,aV⟩:=hv
 obtain ⟨o',bm,hr⟩:=H.obj j s hj
 rw [ho] at bm
 cases bm
 subst hs
 cases o with
 | ro e xs=>obtain ⟨_,c,_,fr,h2,_⟩:=hr;rw [hl] at h2;cases h2
 | arr e xs=>obtain ⟨_,_,c,h2,_⟩:=hr;rw [hl] at h2;cases h2
 | smap es=>obtain ⟨ak,clock,h1,_⟩:=hr;rw [hl] at h1;cases h1
 | dY kd es=>obtain ⟨ak,clock,h1,_⟩:=hr;rw [hl] at h1;cases h1
 | ct g c es=>obtain ⟨_,ak,h1,_⟩:=hr;rw [hl] at h1;cases h1
 | iter m s n l=>obtain ⟨_,rm,_,h1⟩:=hr;rw [hl] at h1;cases h1
 | loop c ls vs=>exact ⟨c,ls,vs,ho⟩
 | dead=>exact absurd rfl aV
theorem Tr.late {ae:ai} {h':ad} {w':World} (T:Tr ρ h w ae h' w') {l:Nat} (hl:w.heap.size<=l) (o:Obj) (i:Nat):Tr ρ h w ae (h'.set i .dead) (w'.putObj l o) where
 ext:=T.ext
 len:=by simpa using T.len
 cW:=T.cW
 kinds:=by
  intro j hj hm
  refine T.kinds j hj ?_
  by_cases e:j=i
  ·subst e
   have hlt:j<h'.length:=Nat.lt_of_lt_of_le hj T.len
   unfold aH at hm
   rw [getElem?_set_self hlt] at hm
   rcases hm with ⟨_,_,h1⟩ | ⟨_,h1⟩ | ⟨_,_,_,h1⟩ | ⟨_,_,h1⟩ | ⟨_,_,_,h1⟩ | ⟨_,_,_,_,h1⟩ <;> cases h1
  ·unfold aH at hm⊢
   rw [getElem?_set_ne (Ne.symm e)] at hm
   exact hm
 fresh:=T.fresh
 cu:=by rw [World.putObj_size];exact T.cu
 cq:=λk hk aP=>by rw [mD (by omega)];exact T.cq k hk aP
 os:=T.os
 tape:=T.tape
 output:=T.output
theorem av.kill (H:av P ρ h w) (i:Nat):av P ρ (h.set i .dead) w:=by
 have hm:∀j,aH (h.set i .dead) j->aH h j:=by
  intro j hj
  by_cases e:j=i
  ·subst e
   unfold aH at hj
   by_cases hlt:j<h.length
   ·rw [getElem?_set_self hlt] at hj
    rcases hj with ⟨_,_,h1⟩ | ⟨_,h1⟩ | ⟨_,_,_,h1⟩ | ⟨_,_,h1⟩ | ⟨_,_,_,h1⟩ | ⟨_,_,_,_,h1⟩ <;> cases h1
   ·rw [List.getElem?_eq_none (by simpa using le_of_not_lt hlt)] at hj
    rcases hj with ⟨_,_,h1⟩ | ⟨_,h1⟩ | ⟨_,_,_,h1⟩ | ⟨_,_,h1⟩ | ⟨_,_,_,h1⟩ | ⟨_,_,_,_,h1⟩ <;> cases h1
  ·unfold aH at hj⊢
   rw [getElem?_set_ne (Ne.symm e)] at hj
   exact hj
 have hl:∀j,bC (h.set i .dead) j->bC h j:=by
  intro j hj
  by_cases e:j=i
  ·subst e
   obtain ⟨o,ho,aV⟩:=hj
   by_cases hlt:j<h.length
   ·rw [getElem?_set_self hlt] at ho
    cases ho
    exact absurd rfl aV
   ·rw [List.getElem?_eq_none (by simpa using le_of_not_lt hlt)] at ho
    cases ho
  ·unfold bC at hj⊢
   rw [getElem?_set_ne (Ne.symm e)] at hj
   exact hj
 refine ⟨?_,λa b r s ha hb iL h1 h2=>H.inj a b r s ha hb iL (hm a h1) (hl b h2),H.aL⟩
 intro j r hj
 by_cases e:j=i
 ·subst e
  exact ⟨.dead,by rw [getElem?_set_self (H.lt hj)],trivial⟩
 ·obtain ⟨o,ho,hr⟩:=H.obj j r hj
  exact ⟨o,by rw [getElem?_set_ne (Ne.symm e)];exact ho,hr⟩
theorem NK {g:FuncId} {first cap:Array Value} (eU:gF P g=true) (a:Act) (gx:Operand) (hy:a.eval gx=.func (.func g) first cap) (l:Nat) (w:World):
  ∃d,(resolve a.eval (rangeCall gx l) 0).run P w=.ok d w/\(invoke d.target d.args).run P w=.ok (.enter g (first++#[.func (.yield l) #[] #[]]++cap)) w:=by
 refine ⟨_,by simp [resolve,hy,Deferred.ofValue];rfl,?_⟩
 simp [invoke,uq eU,Act.eval]
theorem MW {N:Nat} {g:Operand} {ps:Array Tmp} {dM body:Code} {ls:List Nat} {K:ad->Prop} {f:Nat->Value} (aj:df g=true)
  (hi:kZ P (ev f g) ls (ls.map f) ⟨N,ps,dM,body⟩ h K):∃h',cr P N true (.rangeFunc g ps dM body) f h .normal f h'/\K h':=by
 unfold kZ at hi
 split at hi
 ·rename_i F first cap hx
  obtain ⟨eU,v,h',lV,⟨c',B4,dh,aA⟩,hk⟩:=hi
  refine ⟨_,?_,hk⟩
  intro S hS B ρ a w R
  obtain rfl:=hS rfl
  refine wpIn_rangeFunc λfn _=>?_
  obtain ⟨H0,T0⟩:=R.heap.alloc (.deferred (some []))
  have fO:(w.alloc (.deferred (some []))).heap.size=w.heap.size+1:=World.size_alloc _ _
  have nb:=dm.alloc (w.alloc (.deferred (some []))) (.loop { state:=.ready,pending:=none,fn,tmps:=a.tmps,params:=ps,assign:=dM,body,defers:=w.heap.size })
  obtain ⟨H1,T1⟩:=H0.new (h₀:=h) (o:=.loop ⟨N,ps,dM,body⟩ ls (ls.map f)) (r:=⟨w.heap.size+1,0,0,P.cellsOf 0,0⟩) nb fO.symm rfl rfl (λ_=>.inl rfl)
   ⟨_,by rw [<-fO];exact nb.new,rfl,rfl,rfl,rfl,rfl,R.size,λt=>by
    rcases sf f ls t with e | e
    ·rw [e];exact (R.tmp t).mono (ai.kg R.heap.none)
    ·rw [e];exact .any _⟩
  have hr:=R.ev aj
  rw [hx] at hr
  generalize hy:a.eval g=y at hr
  cases hr with
  | func _ s1 s2 r1 r2=>
   rename_i uT ur
   obtain ⟨d,JN,Jf⟩:=NK (w:=((w.alloc (.deferred (some []))).alloc (.loop { state:=.ready,pending:=none,fn,tmps:=a.tmps,params:=ps,assign:=dM,body,defers:=w.heap.size }))) eU a g hy (w.heap.size+1)
   refine ⟨_,_,_,d,_,F,_,_,run_enterLoop_outer fn a.tmps ps dM body,JN,λ_ _=>trivial,Jf,λh=>(by cases h),?_⟩
   have hle:=ai.kg (r:=⟨w.heap.size+1,0,0,P.cellsOf 0,0⟩) R.heap.none
   have gJ:aC (ρ.add h.length ⟨w.heap.size+1,0,0,P.cellsOf 0,0⟩) (first.toList++[.func (.yield h.length) #[] #[]]++cap.toList) (uT++#[Value.func (.yield (w.heap.size+1)) #[] #[]]++ur).toList:=by
    have q1:=(aC.la s1 r1).mono hle
    have q3:=(aC.la s2 r2).mono hle
    have q2:aC (ρ.add h.length ⟨w.heap.size+1,0,0,P.cellsOf 0,0⟩) [.func (.yield h.length) #[] #[]] [.func (.yield (w.heap.size+1)) #[] #[]]:=
     .cons (af.yield (i:=h.length) (r:=⟨w.heap.size+1,0,0,P.cellsOf 0,0⟩) (by simp [ai.add])) .nil
    simpa using (q1.append q2).append q3
   refine (Au (lV _ _ _ gJ H1) none _).mono ?_
   rintro e w3 ⟨v',ae,rfl,hv,H3,T3⟩
   have vR:ae h.length=some ⟨w.heap.size+1,0,0,P.cellsOf 0,0⟩:=T3.ext _ _ (by simp [ai.add])
   obtain ⟨o,ho,vC⟩:=H3.obj _ _ vR
   rw [aA] at ho
   cases ho
   obtain ⟨rec,g1,g2,g3,g4,g5,g6,g7,g8⟩:=vC
   have cn:=run_endLoop (P:=P) g1 (by rw [g2];decide)
   refine ⟨_,_,cn,?_⟩
   split
   rotate_left
   ·rename_i c hc;rw [g3] at hc;cases hc
   have TT:=(T0.trans (T1.trans T3))
   have Hk:=H3.kill h.length
   have JD:av P ae (h'.set h.length .dead) (w3.putObj (w.heap.size+1) (.loop { rec with state:=.exhausted })):=by
    refine Hk.put ?_ _
    intro j s hj hs pa
    obtain ⟨c,_,_,hc⟩:=Hk.BO g1 hj hs pa
    have aV:j≠h.length:=by
     rintro rfl
     rw [getElem?_set_self (H3.lt vR)] at hc
     cases hc
    rw [getElem?_set_ne (Ne.symm aV)] at hc
    exact aV (H3.inj _ _ _ _ hj vR hs (.inr (.inr (.inl ⟨_,_,_,hc⟩))) ⟨_,aA,by simp⟩)
   have TL:=TT.late (l:=w.heap.size+1) (by omega) (.loop { rec with state:=.exhausted }) h.length
   refine ⟨rfl,ae,⟨R.size,?_,λt=>(R.tmp t).mono TL.ext,JD⟩,TL⟩
   have hD:(w3.putObj (w.heap.size+1) (.loop { rec with state:=.exhausted })).heap[w.heap.size]?=some (.deferred (some [])):=by
    rw [mD (by omega)]
    have e1:(w.alloc (.deferred (some []))).heap[w.heap.size]?=some (.deferred (some [])):=World.alloc_heap_new _ _
    have e2:=nb.old (k:=w.heap.size) (by omega)
    rw [T3.cq _ (by rw [nb.size];omega) ?_,e2,e1]
    intro j s hj hs hm
    exact H1.wO (e2.trans e1) hj hs hm.live
   refine ⟨⟨w.heap.size,rfl,marks.base R.defers,hD,?_⟩,marks.tr R.heap TL R.defers⟩
   intro d' j4 he
   obtain ⟨D,e1,e2⟩:=marks.lt R.defers d' j4
   rw [e1] at he
   have:=B7 he
   omega
 ·exact hi.elim
end
end
section
section
variable {P : Program} {N : Nat}
theorem FZ {a:eS} {g g':Operand->Value} (h:∀x∈a.cp,g x=g' x):ei a g=ei a g':=by
 cases a with
 | alloc e zs=>rfl
 | fw e n zs ps=>
  simp only [ei]
  rw [sw (ps:=ps) h]
 | make e b zs l c=>
  simp only [eS.cp,mem_cons,List.not_mem_nil,or_false,forall_eq_or_imp,forall_eq] at h
  simp only [ei,h.1,h.2]
 | fU g=>rfl
theorem F0 {a:eS} {g:Operand->Value} {V:Nat->Value} {o:ay} (h:ei a g=some (V,o)) {ρ ae:ai} {i j:Nat} {v':Value} (e:ae j=ρ i) (hv:af ρ (V i) v'):af ae (V j) v':=by
 have ptr:V=(λi=>.pointer (some ⟨i,0,none⟩))->af ae (V j) v':=by
  rintro rfl
  cases hv with
  | ptr hr=>exact .ptr (by rw [e];exact hr)
 have Ea:∀t n,V=(λi=>sl t i 0 n)->af ae (V j) v':=by
  rintro t n rfl
  cases hv with
  | slice hr a b c d=>exact .slice (by rw [e];exact hr) a b c d
 have mp:V=(λi=>.map (some i))->af ae (V j) v':=by
  rintro rfl
  cases hv with
  | map hr=>exact .map (by rw [e];exact hr)
 cases a with
 | fU g=>simp [ei] at h;exact mp h.1.symm
 | alloc t zs=>simp [ei] at h;exact ptr h.1.symm
 | fw t n zs ps=>simp only [ei,Option.map_eq_some_iff,Prod.mk.injEq] at h;obtain ⟨_,_,h1,_⟩:=h;exact Ea t n h1.symm
 | make t b zs l c=>
  simp only [ei] at h
  split at h
  ·split at h
   ·simp at h;exact Ea t _ h.1.symm
   ·cases h
  ·cases h
theorem uH {i:Nat} {o:ay} {u:Value} (h:iA i o=some u):(∃e xs,o=.arr e xs/\(∀x∈xs,ie i x=true)/\u=.agg (.int .i64 e::xs).toArray)∨∃g,o=.ct g 0 []/\u=.tuple #[oP g]:=by
 unfold iA at h
 split at h
 ·rename_i e xs
  split at h
  ·rename_i hx
   rw [all_eq_true] at hx
   injection h with h
   exact .inl ⟨e,xs,rfl,hx,h.symm⟩
  ·cases h
 ·rename_i g c es
  split at h
  ·rename_i hc
   obtain ⟨rfl,hc⟩:=hc
   rw [List.isEmpty_iff] at hc
   subst hc
   injection h with h
   exact .inr ⟨g,rfl,h.symm⟩
  ·cases h
 ·cases h
theorem Iu {g g':cg} (h:oP g=oP g'):g=g':=by
 cases g <;> cases g' <;> simp [oP] at h <;> first | rfl | (subst h;rfl) | (obtain ⟨rfl,h⟩:=h;rw [Int.ofNat.inj h]) | (have:=Int.ofNat.inj h.2;rw [h.1,this])
theorem H5 {i:Nat} {o o':ay} {u:Value} (h:iA i o=some u) (h':iA i o'=some u):o=o':=by
 rcases uH h with ⟨e,xs,rfl,_,h1⟩ | ⟨g,rfl,h1⟩ <;> rcases uH h' with ⟨e',xs',rfl,_,h2⟩ | ⟨g',rfl,h2⟩
 ·rw [h1] at h2
  simp at h2
  obtain ⟨h3,h4⟩:=h2
  have ID:e=e':=Int.ofNat.inj h3
  rw [ID,h4]
 ·rw [h1] at h2;cases h2
 ·rw [h1] at h2;cases h2
 ·rw [h1] at h2
  simp at h2
  rw [Iu h2]
theorem ie.rel {ρ ae:ai} {i:Nat} {v v':Value} (h:ie i v=true) (hle:∀k,k<i->∀r,ρ k=some r->ae k=some r) (hv:af ρ v v'):af ae v v':=by
 unfold ie at h
 rw [or_eq_true] at h
 rcases h with h | h
 ·exact pM.rel h hv
 ·split at h
  ·have hk:=of_decide_eq_true h
   cases hv with
   | slice hr a b c d=>exact .slice (hle _ hk _ hr) a b c d
  ·cases h
theorem eN.ie {ρ ae:ai} {w:World} {r:RI} {o:ay} {i:Nat} (hx:(iA i o).isSome=true) (hle:∀k,k<i->∀r,ρ k=some r->ae k=some r) (h:eN ρ w r o):eN ae w r o:=by
 obtain ⟨u,hu⟩:=Option.isSome_iff_exists.1 hx
 rcases uH hu with ⟨e,xs,rfl,hx,_⟩ | ⟨g,rfl,_⟩
 ·obtain ⟨h1,h0,c,h2,h3,h4⟩:=h
  refine ⟨h1,h0,c,h2,h3,λj x hj=>?_⟩
  obtain ⟨c1,y,hy,hr⟩:=h4 j x hj
  exact ⟨c1,y,hy,Go.Sim.ie.rel (hx x (mem_of_getElem? hj)) hle hr⟩
 ·obtain ⟨h0,ak,h1,h2,h3⟩:=h
  exact ⟨h0,ak,h1,h2,λj b k v hj=>by simp at hj⟩
theorem av.take {ρ ae:ai} {h:ad} {w w':World} {o:ay} {p:Nat} (R:av P ρ h w) (hp:h[p]?=some o) (hx:(iA p o).isSome=true) (hn:ρ p=Option.none)
  (H':av P ae (h++[o]) w') (T:Tr ρ h w ae (h++[o]) w'):av P (λk=>if k=p then ae h.length else ρ k) h w':=by
 have hpl:=(bu hp).1
 have new:(h++[o])[h.length]?=some o:=by simp
 have old:∀k,k<h.length->(h++[o])[k]?=h[k]?:=λk hk=>getElem?_append_left hk
 have hle:ρ.le λk=>if k=p then ae h.length else ρ k:=by
  intro k r hr
  have:k≠p:=by rintro rfl;rw [hn] at hr;cases hr
  simp [this,hr]
 have mt:∀k,k<h.length->(aH h k↔aH (h++[o]) k):=λk hk=>by unfold aH;rw [old k hk]
 have mu:∀k,k<h.length->(bC h k↔bC (h++[o]) k):=λk hk=>by unfold bC;rw [old k hk]
 have back:∀k,k<p->∀r,ae k=some r->(λk=>if k=p then ae h.length else ρ k) k=some r:=by
  intro k hk r hr
  have aV:k≠p:=by omega
  simp only [if_neg aV]
  cases hq:ρ k with
  | none=>
   have:=(T.fresh k r hr hq).1
   omega
  | some r'=>
   have:=T.ext k r' hq
   rw [hr] at this
   exact this.symm
 have wL:aH h p↔aH (h++[o]) h.length:=by unfold aH;rw [new,hp]
 have wH:bC h p↔bC (h++[o]) h.length:=by unfold bC;rw [new,hp]
 refine ⟨?_,?_,?_⟩
 ·intro k r hr
  by_cases hk:k=p
  ·subst hk
   simp only [if_true] at hr
   obtain ⟨o',bm,hrel⟩:=H'.obj _ r hr
   rw [new] at bm
   cases bm
   exact ⟨_,hp,eN.ie hx back hrel⟩
  ·simp only [if_neg hk] at hr
   obtain ⟨o',bm,hrel⟩:=R.obj k r hr
   obtain ⟨o2,kQ,ph⟩:=H'.obj k r (T.ext k r hr)
   rw [old k (R.lt hr),bm] at kQ
   cases kQ
   exact ⟨o',bm,(hrel.down T.ext ph).mono hle rfl⟩
 ·intro a b r s ha hb iL hm hl
  by_cases ea:a=p <;> by_cases eb:b=p
  ·omega
  ·subst ea
   simp only [if_true] at ha
   simp only [if_neg eb] at hb
   have IN:=R.lt hb
   have:=H'.inj h.length b r s ha (T.ext b s hb) iL (wL.1 hm) ((mu b IN).1 hl)
   omega
  ·subst eb
   simp only [if_true] at hb
   simp only [if_neg ea] at ha
   have hal:=R.lt ha
   have:=H'.inj a h.length r s (T.ext a r ha) hb iL ((mt a hal).1 hm) (wH.1 hl)
   omega
  ·simp only [if_neg ea] at ha
   simp only [if_neg eb] at hb
   exact H'.inj a b r s (T.ext a r ha) (T.ext b s hb) iL ((mt a (R.lt ha)).1 hm) ((mu b (R.lt hb)).1 hl)
 ·intro k r hr
  by_cases hk:k=p
  ·subst hk;simp only [if_true] at hr;exact H'.aL _ r hr
  ·simp only [if_neg hk] at hr;exact R.aL k r hr
theorem Tr.take {mO ρ ae:ai} {hb h:ad} {wb w w':World} {o:ay} {p:Nat} (TB:Tr mO hb wb ρ h w) (JA:hb.length<=p) (hn:ρ p=Option.none) (T:Tr ρ h w ae (h++[o]) w'):
  Tr mO hb wb (λk=>if k=p then ae h.length else ρ k) h w':=by
 have TT:=TB.trans T
 exact {
  ext:=by
   intro k r hr
   have:=TB.ext k r hr
   have hk:k≠p:=by rintro rfl;rw [hn] at this;cases this
   simp [hk,this]
  len:=TB.len
  cW:=TB.cW
  kinds:=TB.kinds
  fresh:=by
   intro k r hr oY
   by_cases hk:k=p
   ·subst hk
    simp only [if_true] at hr
    have IQ:mO h.length=none:=by
     cases hq:mO h.length with
     | none=>rfl
     | some q=>have:=TB.cW _ _ hq;have:=TB.len;omega
    exact ⟨JA,(TT.fresh _ r hr IQ).2⟩
   ·simp only [if_neg hk] at hr
    exact TB.fresh k r hr oY
  cu:=TT.cu
  cq:=TT.cq
  os:=TT.os
  tape:=TT.tape
  output:=TT.output }
theorem nh {l:List aK} {F:Nat->Nat->Value} {H:Nat->ad} {V:Nat->Value} (T:Trace P l 0 F H V) {q:Nat} {d:aK} {a:eS} (hq:l[q]?=some d) (ho:d.op.op=.e (.fl a)) (hg:d.op.guard=none):
  ∃Vf o,ei a (ev (F q))=some (Vf,o)/\V q=Vf (H q).length/\H (q+1)=H q++[o]/\(iA (H q).length o).isSome=true/\fE (H (q+1)) (V q)=iA (H q).length o/\
   ∀e' oe,l[e']?=some oe->oe.op.op.aW=true->q<e'->oe.pre.testBit q=false->fE (H (e'+1)) (V q)=iA (H q).length o:=by
 have hw:cB d.op.guard (F (0+q))=true:=by rw [hg];rfl
 have hy:=T.yes q d hq hw
 obtain ⟨u,u1,u2⟩:=T.AX q d a hq ho hw
 simp only [zero_add] at hy u1 u2
 rw [ho] at hy
 simp only [aT,fx,BC] at hy
 cases hal:ei a (ev (F q)) with
 | none=>rw [hal] at hy;exact hy.elim
 | some p=>
  obtain ⟨Vf,o⟩:=p
  rw [hal] at hy
  simp only [map_some] at hy
  obtain ⟨h1,h2⟩:=hy
  have dQ:=tY hal (H q).length
  rw [h1] at dQ
  have oU:fE (H (q+1)) (V q)=iA (H q).length o:=by
   unfold fE
   rw [dQ,<-h2]
   simp
  rw [oU] at u1
  exact ⟨Vf,o,rfl,h1.symm,h2.symm,by rw [u1];rfl,oU,λe' oe he hE hlt hp=>(u2 e' oe he hE hlt hp).trans u1.symm⟩
def tE (l:List aK) (S:List Nat) (m:Nat):Prop:=∀e oe,l[e]?=some oe->oe.op.op.aW=true->cA oe=false->(e∈S↔e<m)
theorem mq {o:aK}:cA o=true↔∃a,o.op.op=.e (.fl a):=by
 unfold cA
 constructor
 ·intro h
  split at h
  ·rename_i a ha;exact ⟨a,ha⟩
  ·cases h
 ·rintro ⟨a,ha⟩;rw [ha]
structure Laid (P:Program) (N:Nat) (ops:Array Oper) (l:List aK) (perm:Nat->Nat) (mF:Nat):Prop where
 len:l.length=ops.size
 lt:∀q,q<ops.size->perm q<ops.size
 inj:∀q k,q<ops.size->k<ops.size->perm q=perm k->q=k
 N1:∀j,j<ops.size->∃q,q<ops.size/\perm q=j
 comp:∀q o d,ops[perm q]?=some o->l[q]?=some d->∃x,lD P N ops o=some x/\x.dst=d.op.dst/\x.guard=d.op.guard/\tmpsOf x.op.cp=tmpsOf d.op.op.cp/\((cA d=false/\x.op=d.op.op)∨∃a,x.op=.e a.s5/\d.op.op=.e (.fl a)/\d.op.guard=none)
 pre:∀q d,l[q]?=some d->∀k,k<ops.size->d.pre.testBit k=((db (ops.toList.map bB) []).getD (perm q) 0).testBit (perm k)
 back:∀j e,e∈(ops.toList.map bB).getD j []->e<j
 pQ:∀i j oi oj,l[i]?=some oi->l[j]?=some oj->nT oj j oi i=true
 head:mF<=l.length
 low:∀q d,l[q]?=some d->q<mF->d.op.op.aW=true->cA d=true
 high:∀q d,l[q]?=some d->mF<=q->cA d=false
theorem Dw {oi oj:aK} {i j t:Nat} (h:nT oj j oi i=true) (aV:i≠j) (hd:oi.op.dst=some t) (ht:jE oj t=true):(if i<j then oj.pre.testBit i else oi.pre.testBit j)=true:=by
 unfold nT at h
 rw [hd] at h
 simp only [and_eq_true,or_eq_true,beq_iff_eq,ht,Bool.not_true,Bool.false_eq_true,false_or] at h
 rcases h.1 with h | h
 ·exact absurd h aV
 ·exact h
theorem xk {oi oj:aK} {i j:Nat} (h:nT oj j oi i=true) (hlt:i<j) (hi:oi.op.op.aW=true) (hj:oj.op.op.aW=true) (fi:cA oi=false) (fj:cA oj=false):oj.pre.testBit i=true:=by
 unfold nT at h
 simp only [and_eq_true,hlt,decide_true,hi,hj,fi,fj,Bool.and_self,Bool.not_true,Bool.not_false,Bool.false_or] at h
 exact h.2
theorem kN {ops:Array Oper} {l:List aK} {perm:Nat->Nat} {mF:Nat} (L:Laid P N ops l perm mF) (fk:∀(q:Nat) (d:aK),l[q]?=some d->cA d=true->d.op.guard=none) {F:Nat->Nat->Value} {H:Nat->ad} {V:Nat->Value} (T:Trace P l 0 F H V) {k:Nat}:∀(d:Nat),k+d<=mF->∃os,H (k+d)=H k++os
 | 0,_=>⟨[],by simp⟩
 | d+1,hd=>by
  obtain ⟨os,eW⟩:=kN L fk T (k:=k) d (by omega)
  have hlt:k+d<l.length:=by have:=L.head;omega
  have aA:l[k+d]?=some l[k+d]:=getElem?_eq_getElem hlt
  rw [show k+(d+1)=k+d+1 by omega]
  cases hE:l[k+d].op.op.aW with
  | true=>
   have hf:=L.low (k+d) _ aA (by omega) hE
   obtain ⟨a,ha⟩:=mq.1 hf
   obtain ⟨_,oo,_,_,h3,_⟩:=nh T aA ha (fk _ _ aA hf)
   exact ⟨os++[oo],by rw [h3,eW];simp⟩
  | false=>
   have:=tl T (i:=k+d) 1 (by omega) (λe oe h1 h2 h3=>by
    have:e=k+d:=by omega
    subst this
    rw [aA] at h1
    cases h1
    rw [hE] at h2
    cases h2)
   exact ⟨os,by rw [this,eW]⟩
theorem Ho {ops:Array Oper} {l:List aK} {perm:Nat->Nat} {mF:Nat} (L:Laid P N ops l perm mF) (fk:∀(q:Nat) (d:aK),l[q]?=some d->cA d=true->d.op.guard=none) {F:Nat->Nat->Value} {H:Nat->ad} {V:Nat->Value} (T:Trace P l 0 F H V)
  {mO:ai} {wb:World} {S r:List Nat} (hv:ly ops S r):
  n7 (ops.toList.map bB) S->(∀i∈S,i<ops.size)->∀Sp,(∀q,q∈Sp↔q<ops.size/\perm q∈S)->∀m,mF<=m->m<=l.length->tE l Sp m->∀S' B ρ a w,bA P N B ρ (bp V Sp l 0 (F 0)) (H m) a w->(H mF).length<=(H m).length->
   (∀(q:Nat) (d:aK),l[q]?=some d->cA d=true->q∉Sp->ρ (H q).length=none/\fE (H m) (V q)=fE (H (q+1)) (V q))->Tr mO (H 0) wb ρ (H m) w->∀Q:Exit->Act->World->Prop,
   (∀ae a' w',bA P N B ae (F l.length) (H l.length) a' w'->Tr mO (H 0) wb ae (H l.length) w'->Q .normal a' w')->wpOpsIn (FR S') 0 P ops Q r a w:=by
 induction hv with
 | nil dt=>
  rename_i S
  intro bI hlt Sp nm m pb hm bT S' B ρ a w R _ _ TB Q hq
  have er:∀q,q<l.length->q∈Sp:=λq hq=>(nm q).2 ⟨by rw [<-L.len];exact hq,dt _ (L.lt q (by rw [<-L.len];exact hq))⟩
  have hF:bp V Sp l 0 (F 0)=F l.length:=by
   have h1:=oO T l 0 (List.range l.length) l.length (λk=>by simp) (λk=>by simp) (by omega) (by omega)
   rw [<-h1]
   funext t
   refine kG (λk d hk _=>?_) rfl
   have rE:=(bu hk).1
   simp only [zero_add,mem_range]
   exact ⟨λ_=>rE,λ_=>er k rE⟩
  have hH:H l.length=H m:=by
   refine hK T hm (le_refl _) ?_
   rintro e oe he hE ⟨h1,h2⟩
   have:=(bT e oe he hE (L.high e oe he (by omega))).1 (er e h2)
   omega
  rw [hF] at R
  simp only [wpOpsIn]
  exact hq ρ a w (by rw [hH];exact R) (by rw [hH];exact TB)
 | cons ka iJ lZ Kc ih=>
  rename_i S j0 o r
  intro bI hlt Sp nm m pb hm bT S' B ρ a w R hlen iF TB Q hq
  have Bk:j0<ops.size:=(Array.getElem?_eq_some_iff.1 ka).1
  obtain ⟨j,nz,kP⟩:=L.N1 j0 Bk
  have dF:j<l.length:=by rw [L.len];exact nz
  have aA:l[j]?=some (l[j]'dF):=getElem?_eq_getElem _
  generalize I0:l[j]'dF=d at aA
  obtain ⟨x,hc,x1,x2,x3,x4⟩:=L.comp j o d (by rw [kP];exact ka) aA
  obtain ⟨q1,q2,q3,q4,q5⟩:=qX hc
  rw [x2] at q4
  rw [x1] at q5
  have vB:j∉Sp:=λh=>iJ (by rw [<-kP];exact ((nm j).1 h).2)
  have dV:(ops.toList.map bB).getD j0 []=bB o:=by
   simp [getD,ka]
  have jq:n7 (ops.toList.map bB) (j0::S):=by
   intro k e hk he
   rcases mem_cons.1 hk with rfl | hk
   ·rw [dV] at he
    exact mem_cons_of_mem _ (lZ e he)
   ·exact mem_cons_of_mem _ (bI k e hk he)
  have oR:∀q,q∈j::Sp↔q<ops.size/\perm q∈j0::S:=by
   intro q
   rw [mem_cons,mem_cons,nm]
   constructor
   ·rintro (rfl | ⟨h1,h2⟩)
    ·exact ⟨nz,.inl kP⟩
    ·exact ⟨h1,.inr h2⟩
   ·rintro ⟨h1,h2 | h2⟩
    ·exact .inl (L.inj q j h1 nz (h2.trans kP.symm))
    ·exact .inr ⟨h1,h2⟩
  have before:∀i,i<ops.size->d.pre.testBit i=true->i∈Sp:=by
   intro i hi hb
   rw [L.pre j d aA i hi,kP] at hb
   exact (nm i).2 ⟨hi,sB bI L.back j0 (perm i) (by rw [dV];exact lZ) hb⟩
  have behind:∀k dk,l[k]?=some dk->dk.pre.testBit j=true->k∉Sp:=by
   intro k dk hk hb oZ
   have Pn:k<ops.size:=by rw [<-L.len];exact (bu hk).1
   rw [L.pre k dk hk j nz,kP] at hb
   have Jg:=((nm k).1 oZ).2
   exact iJ (sB bI L.back (perm k) j0 (λe he=>bI (perm k) e Jg he) hb)
  have fF:∀{k dk},l[k]?=some dk->k<ops.size:=λhk=>by rw [<-L.len];exact (bu hk).1
  have slot:∀t,jE d t=true->bp V Sp l 0 (F 0) t=F j t:=by
   intro t ht
   have h1:=oO T l 0 (List.range j) j (λk=>by simp) (λk=>by simp) (by omega) (by omega)
   rw [<-h1]
   refine kG (λk dk hk lY=>?_) rfl
   simp only [zero_add,mem_range]
   by_cases j7:k=j
   ·subst j7
    exact ⟨λh=>absurd h vB,λh=>absurd h (Nat.lt_irrefl _)⟩
   ·have hp:=Dw (L.pQ k j dk d hk aA) j7 lY ht
    by_cases du:k<j
    ·rw [if_pos du] at hp
     exact ⟨λ_=>du,λ_=>before k (fF hk) hp⟩
    ·rw [if_neg du] at hp
     exact ⟨λh=>absurd h (behind k dk hk hp),λh=>absurd h du⟩
  have me:∀t∈d.op.reads,bp V Sp l 0 (F 0) t=F j t:=λt ht=>slot t (by simp [jE,ht])
  have nA:∀t∈tmpsOf d.op.op.cp,bp V Sp l 0 (F 0) t=F j t:=λt ht=>me t (by simp [cD.reads,ht])
  have px:cB d.op.guard (bp V Sp l 0 (F 0))=cB d.op.guard (F j):=by
   cases hg:d.op.guard with
   | none=>rfl
   | some sb=>
    obtain ⟨s,b⟩:=sb
    simp only [cB]
    rw [me s (by simp [cD.reads,hg])]
  have vo:iB d.op.guard (bp V Sp l 0 (F 0)):=by
   have:=T.va j d aA
   simp only [zero_add] at this
   cases hg:d.op.guard with
   | none=>trivial
   | some sb=>
    obtain ⟨s,b⟩:=sb
    rw [hg] at this
    simp only [iB] at this⊢
    rw [me s (by simp [cD.reads,hg])]
    exact this
  have py:=td q4 R vo
  have gN:bp V (j::Sp) l 0 (F 0)=ba (bp V Sp l 0 (F 0)) o.dst (V j):=by
   rw [<-q5]
   funext t
   by_cases iE:d.op.dst=some t
   ·have h1:=uZ (V:=V) (S:=j::Sp) (l:=l) (i:=0) (f:=F 0) (k:=j) (d:=d) aA iE (by simp) (by
     intro k' d' bG j4 du
     have hp:=Dw (L.pQ k' j d' d bG aA) (by omega) j4 (by simp [jE,iE])
     rw [if_neg (by omega)] at hp
     have:=behind k' d' bG hp
     simp only [zero_add,mem_cons,not_or]
     exact ⟨by omega,this⟩)
    rw [h1]
    simp [iE,ba,iY]
   ·have h1:bp V (j::Sp) l 0 (F 0) t=bp V Sp l 0 (F 0) t:=by
     refine kG (λk dk hk lY=>?_) rfl
     have j7:k≠j:=by
      rintro rfl
      rw [aA] at hk
      cases hk
      exact iE lY
     simp [j7]
    rw [h1]
    cases oT:d.op.dst with
    | none=>rfl
    | some y=>
     have:t≠y:=by rintro rfl;exact iE oT
     simp [ba,iY,this]
  have hlt2:∀i∈j0::S,i<ops.size:=by
   intro i hi
   rcases mem_cons.1 hi with rfl | hi
   ·exact Bk
   ·exact hlt i hi
  -- O7 still to O0 stay kA PM OW
  have pU:∀q dq,l[q]?=some dq->cA dq=true->q<mF:=by
   intro q dq hq hf
   apply byContradiction
   intro h
   rw [L.high q dq hq (by omega)] at hf
   cases hf
  have MV:∀q dq,l[q]?=some dq->cA dq=true->(H q).length<(H mF).length:=by
   intro q dq hq hf
   have JG:=pU q dq hq hf
   obtain ⟨a,ha⟩:=mq.1 hf
   obtain ⟨_,oo,_,_,h3,_⟩:=nh T hq ha (fk _ _ hq hf)
   obtain ⟨os,eW⟩:=kN L fk T (k:=q+1) (mF-(q+1)) (by omega)
   rw [show q+1+(mF-(q+1))=mF by omega,h3] at eW
   rw [eW]
   simp
  have BS:∀{ae:ai} {h':ad} {w':World},Tr ρ (H m) w ae h' w'->∀q dq,l[q]?=some dq->cA dq=true->ρ (H q).length=none->ae (H q).length=none:=by
   intro ae h' w' TT q dq hq hf hn
   cases hr:ae (H q).length with
   | none=>rfl
   | some s=>
    have:=(TT.fresh _ s hr hn).1
    have:=MV q dq hq hf
    omega
  -- the pY,where the Lw writes memory
  have pZ:d.op.op.aW=true->cA d=false->mF<=j/\H m=H j/\tE l (j::Sp) (j+1):=by
   intro hE hX
   have oX:mF<=j:=by
    apply byContradiction
    intro h
    rw [L.low j d aA (by omega) hE] at hX
    cases hX
   have gM:m<=j:=by
    apply byContradiction
    intro h
    exact vB ((bT j d aA hE hX).2 (by omega))
   refine ⟨oX,?_,?_⟩
   ·refine (hK T gM (by omega) ?_).symm
    rintro e oe he eG ⟨h1,h2⟩
    have j5:=L.high e oe he (by omega)
    have hb:=xk (L.pQ e j oe d he aA) h2 eG hE j5 hX
    have:=(bT e oe he eG j5).1 (before e (fF he) hb)
    omega
   ·intro e oe he eG j5
    rcases Nat.lt_trichotomy e j with du | rfl | l5
    ·have hb:=xk (L.pQ e j oe d he aA) du eG hE j5 hX
     exact ⟨λ_=>by omega,λ_=>mem_cons_of_mem _ (before e (fF he) hb)⟩
    ·exact ⟨λ_=>by omega,λ_=>by simp⟩
    ·have hb:=xk (L.pQ j e d oe aA he) l5 hE eG hX j5
     have:=behind e oe he hb
     constructor
     ·intro h
      rcases mem_cons.1 h with h | h
      ·omega
      ·exact absurd h this
     ·intro h;omega
  have nW:(d.op.op.aW=false∨cA d=true)->tE l (j::Sp) m:=by
   intro hE e oe he eG j5
   have aV:e≠j:=by
    rintro rfl
    rw [aA] at he
    cases he
    rcases hE with hE | hE
    ·rw [hE] at eG;cases eG
    ·rw [hE] at j5;cases j5
   rw [<-bT e oe he eG j5]
   simp [aV]
  have dG:=T.yes j d aA
  have aP:=T.no j d aA
  simp only [zero_add] at dG aP
  simp only [wpOpsIn,ka]
  by_cases hw:cB d.op.guard (F j)=true
  ·rw [if_pos (by rw [py,px,hw])]
   have hs:=dG hw
   rcases x4 with ⟨hX,ym⟩ | ⟨aa,ym,uD,dg⟩
   ·rw [ym] at q3
    by_cases hE:d.op.op.aW=true
    ·obtain ⟨e0,e1,e2⟩:=pZ hE hX
     rw [<-sT nA,<-e1] at hs
     obtain ⟨v,h',st,hv,hh⟩:=nR (N:=N) q3 q1 hs
     subst hv
     subst hh
     refine st S' B ρ a w R _ _ ?_
     intro ae v' w' kb HH TT
     have R':=R.ko q2 TT kb HH
     rw [<-gN] at R'
     refine ih jq hlt2 (j::Sp) oR (j+1) (by omega) (by omega) e2 S' B ae _ w' R' (Nat.le_trans hlen TT.len) ?_ (TB.trans TT) Q hq
     intro q dq dw hf iK
     have Br:q∉Sp:=λh=>iK (mem_cons_of_mem _ h)
     obtain ⟨i1,i2⟩:=iF q dq dw hf Br
     refine ⟨BS TT q dq dw hf i1,?_⟩
     obtain ⟨a',oS⟩:=mq.1 hf
     obtain ⟨_,oo,_,_,_,_,h5,h6⟩:=nh T dw oS (fk _ _ dw hf)
     rw [h5]
     refine h6 j d aA hE (by have:=pU q dq dw hf;omega) ?_
     cases hb:d.pre.testBit q with
     | false=>rfl
     | true=>exact absurd (before q (fF dw) hb) Br
    ·have bQ:d.op.op.aW=false:=by simpa using hE
     -- Og is looked at has one value at this pY and in the PA order
     have fm:aT P d.op.op (bp V Sp l 0 (F 0)) (H m) λv h'=>v=V j/\h'=H m:=by
      rw [sT nA]
      cases aQ:d.op.op with
      | p po=>
       rw [aQ] at hs
       simp only [aT,bH] at hs⊢
       split at hs
       ·exact ⟨hs.1,trivial⟩
       ·exact hs.elim
      | l lo=>
       have nC:bM lo (ev (F j)) (H j)=some (V j):=by
        rw [aQ] at hs
        simp only [aT,bH] at hs
        split at hs
        ·rename_i v hv
         rw [hv,hs.1]
        ·exact hs.elim
       -- from a place at or behind the head,to a pY before it
       have down:mF<=j->m<=j->bM lo (ev (F j)) (H m)=some (V j):=by
        intro oX gM
        by_cases hex:∃e oe,l[e]?=some oe/\oe.op.op.aW=true/\m<=e/\e<j
        ·have key:∀n,(∃e oe,l[e]?=some oe/\oe.op.op.aW=true/\m<=e/\e<j/\e<n)->∃e oe,l[e]?=some oe/\oe.op.op.aW=true/\m<=e/\e<j/\∀e' cQ,l[e']?=some cQ->cQ.op.op.aW=true->¬(m<=e'/\e'<e):=by
          intro n
          induction n with
          | zero=>rintro ⟨e,oe,_,_,_,_,h⟩;omega
          | succ n ke=>
           rintro ⟨e,oe,h1,h2,h3,h4,h5⟩
           by_cases bJ:∃e oe,l[e]?=some oe/\oe.op.op.aW=true/\m<=e/\e<j/\e<n
           ·exact ke bJ
           ·refine ⟨e,oe,h1,h2,h3,h4,?_⟩
            rintro e' cQ k1 k2 ⟨k3,k4⟩
            exact bJ ⟨e',cQ,k1,k2,k3,by omega,by omega⟩
         obtain ⟨e0,mA,g1,g2,g3,g4⟩:=hex
         obtain ⟨e,oe,h1,h2,h3,h4,h5⟩:=key j ⟨e0,mA,g1,g2,g3,g4,g4⟩
         have lS:H e=H m:=hK T h3 (by omega) (λe' cQ k1 k2 k3=>h5 e' cQ k1 k2 k3)
         rw [<-lS]
         have mb:d.pre.testBit e=false:=by
          cases hb:d.pre.testBit e with
          | false=>rfl
          | true=>
           have:=(bT e oe h1 h2 (L.high e oe h1 (by omega))).1 (before e (fF h1) hb)
           omega
         have:=T.past e oe j d lo h1 h2 aA aQ (by simpa using hw) h4 (by simpa using mb)
         simpa using this
        ·have lT:H j=H m:=hK T gM (by omega) (λe oe h1 h2 h3=>hex ⟨e,oe,h1,h2,h3⟩)
         rw [<-lT]
         exact nC
       -- to a pY behind it,from where the value is known
       have up:∀b,j<=b->mF<=b->b<=m->bM lo (ev (F j)) (H b)=some (V j)->bM lo (ev (F j)) (H m)=some (V j):=by
        intro b Bj Pb hbm IT
        by_cases hex:∃e oe,l[e]?=some oe/\oe.op.op.aW=true/\b<=e/\e<m
        ·have key:∀n,(∃e oe,l[e]?=some oe/\oe.op.op.aW=true/\b<=e/\e<m/\m<=e+n)->∃e oe,l[e]?=some oe/\oe.op.op.aW=true/\b<=e/\e<m/\∀e' cQ,l[e']?=some cQ->cQ.op.op.aW=true->¬(e+1<=e'/\e'<m):=by
          intro n
          induction n with
          | zero=>rintro ⟨e,oe,_,_,_,_,h⟩;omega
          | succ n ke=>
           rintro ⟨e,oe,h1,h2,h3,h4,h5⟩
           by_cases bJ:∃e oe,l[e]?=some oe/\oe.op.op.aW=true/\b<=e/\e<m/\m<=e+n
           ·exact ke bJ
           ·refine ⟨e,oe,h1,h2,h3,h4,?_⟩
            rintro e' cQ k1 k2 ⟨k3,k4⟩
            exact bJ ⟨e',cQ,k1,k2,by omega,by omega,by omega⟩
         obtain ⟨e0,mA,g1,g2,g3,g4⟩:=hex
         obtain ⟨e,oe,h1,h2,h3,h4,h5⟩:=key m ⟨e0,mA,g1,g2,g3,g4,by omega⟩
         have aV:e≠j:=by
          rintro rfl
          rw [aA] at h1
          cases h1
          rw [bQ] at h2
          cases h2
         have lS:H m=H (e+1):=hK T (by omega) hm (λe' cQ k1 k2 k3=>h5 e' cQ k1 k2 k3)
         rw [lS]
         have mb:oe.pre.testBit j=false:=by
          cases hb:oe.pre.testBit j with
          | false=>rfl
          | true=>exact absurd ((bT e oe h1 h2 (L.high e oe h1 (by omega))).2 h4) (behind e oe h1 hb)
         have:=T.u0 j d lo e oe aA aQ (by simpa using hw) h1 h2 (by omega) (by simpa using mb)
         simpa using this
        ·have lT:H m=H b:=hK T hbm hm (λe oe h1 h2 h3=>hex ⟨e,oe,h1,h2,h3⟩)
         rw [lT]
         exact IT
       have iM:bM lo (ev (F j)) (H m)=some (V j):=by
        by_cases oX:mF<=j
        ·rcases Nat.le_total m j with gM | gM
         ·exact down oX gM
         ·exact up j (le_refl _) oX gM nC
        ·obtain ⟨os,eW⟩:=kN L fk T (k:=j) (mF-j) (by omega)
         rw [show j+(mF-j)=mF by omega] at eW
         refine up mF (by omega) (le_refl _) pb ?_
         rw [eW]
         exact Kv os nC
       simp [aT,bH,iM]
      | e eo=>rw [aQ] at bQ;cases bQ
      | call g args=>rw [aQ] at bQ;cases bQ
      | ej x args=>rw [aQ] at bQ;cases bQ
     obtain ⟨v,h',st,hv,hh⟩:=nR (N:=N) q3 q1 fm
     subst hv
     subst hh
     refine st S' B ρ a w R _ _ ?_
     intro ae v' w' kb HH TT
     have R':=R.ko q2 TT kb HH
     rw [<-gN] at R'
     refine ih jq hlt2 (j::Sp) oR m pb hm (nW (.inl bQ)) S' B ae _ w' R' hlen ?_ (TB.trans TT) Q hq
     intro q dq dw hf iK
     obtain ⟨i1,i2⟩:=iF q dq dw hf (λh=>iK (mem_cons_of_mem _ h))
     exact ⟨BS TT q dq dw hf i1,i2⟩
   ·-- a new PF
    have hf:cA d=true:=mq.2 ⟨aa,uD⟩
    obtain ⟨Vf,oo,h1,h2,h3,h4,h5,h6⟩:=nh T aA uD dg
    obtain ⟨i1,i2⟩:=iF j d aA hf vB
    have hal:ei aa (ev (bp V Sp l 0 (F 0)))=some (Vf,oo):=by
     rw [<-h1]
     refine FZ (uL λt ht=>nA t ?_)
     rw [uD]
     exact ht
    have dQ:=tY h1 (H j).length
    rw [<-h2] at dQ
    have Jt:(H m)[(H j).length]?=some oo:=by
     rw [h5] at i2
     unfold fE at i2
     rw [dQ] at i2
     simp only [bind_some] at i2
     cases ho:(H m)[(H j).length]? with
     | none=>
      rw [ho] at i2
      obtain ⟨u,hu⟩:=Option.isSome_iff_exists.1 h4
      rw [hu] at i2
      cases i2
     | some o'=>
      rw [ho] at i2
      obtain ⟨u,oU⟩:=Option.isSome_iff_exists.1 h4
      simp only [bind_some] at i2
      rw [H5 (i2.trans oU) oU]
    have J2:aT P x.op (bp V Sp l 0 (F 0)) (H m) λv h'=>v=Vf (H m).length/\h'=H m++[oo]:=by
     rw [ym]
     simp only [aT,fx,Kt,BC,hal,map_some]
     exact ⟨trivial,trivial⟩
    obtain ⟨v,h',st,hv,hh⟩:=nR (N:=N) q3 q1 J2
    subst hv
    subst hh
    refine st S' B ρ a w R _ _ ?_
    intro ae v' w' kb HH TT
    have HR:=R.heap.take Jt h4 i1 HH TT
    have hle:ρ.le λk=>if k=(H j).length then ae (H m).length else ρ k:=by
     intro k s hk
     have:k≠(H j).length:=by rintro rfl;rw [i1] at hk;cases hk
     simp [this,hk]
    have R1:bA P N B (λk=>if k=(H j).length then ae (H m).length else ρ k) (bp V Sp l 0 (F 0)) (H m) a w':=⟨R.size,marks.tr R.heap TT R.defers,λt=>(R.tmp t).mono hle,HR⟩
    have Ke:af (λk=>if k=(H j).length then ae (H m).length else ρ k) (V j) v':=by
     rw [h2]
     exact F0 h1 (by simp) kb
    have R':=R1.ko q2 (Tr.refl HR) Ke HR
    rw [<-gN] at R'
    have Bj:(H 0).length<=(H j).length:=by
     obtain ⟨os,eW⟩:=kN L fk T (k:=0) j (by have:=pU j d aA hf;omega)
     rw [zero_add] at eW
     rw [eW];simp
    refine ih jq hlt2 (j::Sp) oR m pb hm (nW (.inr hf)) S' B _ _ w' R' hlen ?_ (TB.take Bj i1 TT) Q hq
    intro q dq dw vn iK
    have JF:q≠j:=λh=>iK (by simp [h])
    obtain ⟨k1,k2⟩:=iF q dq dw vn (λh=>iK (mem_cons_of_mem _ h))
    refine ⟨?_,k2⟩
    have aV:(H q).length≠(H j).length:=by
     have grow:∀{a b:Nat} {da:aK},l[a]?=some da->cA da=true->a<b->b<mF->(H a).length<(H b).length:=by
      intro a b da ha nw np hb
      obtain ⟨a',oS⟩:=mq.1 nw
      obtain ⟨_,PK,_,_,g3,_⟩:=nh T ha oS (fk _ _ ha nw)
      obtain ⟨os,eW⟩:=kN L fk T (k:=a+1) (b-(a+1)) (by omega)
      rw [show a+1+(b-(a+1))=b by omega,g3] at eW
      rw [eW]
      simp
     rcases Nat.lt_or_gt_of_ne JF with h | h
     ·have:=grow dw vn h (pU j d aA hf);omega
     ·have:=grow aA hf h (pU q dq dw vn);omega
    simp [aV,k1]
  ·have mi:cB d.op.guard (F j)=false:=by simpa using hw
   rw [if_neg (by rw [py,px,mi];simp)]
   obtain ⟨n1,n2⟩:=aP mi
   have R':=R.ko q2 (Tr.refl R.heap) (af.undef _) R.heap
   rw [n1] at gN
   rw [<-gN] at R'
   have hX:cA d=false:=by
    cases hf:cA d with
    | false=>rfl
    | true=>rw [fk j d aA hf] at mi;cases mi
   by_cases hE:d.op.op.aW=true
   ·obtain ⟨e0,e1,e2⟩:=pZ hE hX
    have e3:H (j+1)=H m:=by rw [n2,e1]
    refine ⟨λ_ _=>trivial,ih jq hlt2 (j::Sp) oR (j+1) (by omega) (by omega) e2 S' B ρ _ w (by rw [e3];exact R') (by rw [e3];exact hlen) ?_ (by rw [e3];exact TB) Q hq⟩
    intro q dq dw hf iK
    rw [e3]
    exact iF q dq dw hf (λh=>iK (mem_cons_of_mem _ h))
   ·exact ⟨λ_ _=>trivial,ih jq hlt2 (j::Sp) oR m pb hm (nW (.inl (by simpa using hE))) S' B ρ _ w R' hlen (λq dq dw hf iK=>iF q dq dw hf (λh=>iK (mem_cons_of_mem _ h))) TB Q hq⟩
end
end
section
section
variable {P : Program} {N : Nat}
theorem Hf {op:Op} {a:eS} (h:cN P op=some (.fl a)):False:=by
 unfold cN at h
 split at h
 all_goals repeat' (split at h)
 all_goals first | (cases h;done) | (simp at h;done) | (simp only [Option.map_eq_some_iff] at h;obtain ⟨_,_,h⟩:=h;cases h;done)
theorem Hj {op:Op} {a:eS} (h:kC P op=some (.e (.fl a))):False:=by
 rcases Ax h with ⟨po,e,_⟩ | ⟨lo,e,_⟩ | ⟨eo,e,he⟩ | ⟨g,args,at_,_,_,e⟩ | ⟨x,args,at_,_,e⟩
 ·cases e
 ·cases e
 ·cases e;exact Hf he
 ·cases e
 ·cases e
theorem Az:∀{l:List Nat},q6 l=true->l.Nodup
 | [],_=>.nil
 | x::xs,h=>by
  simp only [q6,and_eq_true] at h
  rw [nodup_cons]
  exact ⟨by simpa using h.1,Az h.2⟩
theorem BU {l:List aK} {fl:List Nat} {p0:List Nat}:∀{perm:List Nat},(∀i∈perm,i<l.length)->∀q:Nat,
  (perm.filterMap λi=>(l[i]?).map λo=>(⟨if fl.contains i then oL o.op else o.op,sa o.pre p0 0⟩:aK))[q]?=(perm[q]?).bind λi=>(l[i]?).map λo=>⟨if fl.contains i then oL o.op else o.op,sa o.pre p0 0⟩
 | [],_,q=>by simp
 | i::perm,h,q=>by
  have fD:i<l.length:=h i (by simp)
  have hi:l[i]?=some l[i]:=getElem?_eq_getElem fD
  rw [List.filterMap_cons,hi]
  simp only [map_some]
  cases q with
  | zero=>simp [hi]
  | succ q=>
   rw [List.getElem?_cons_succ,List.getElem?_cons_succ]
   exact BU (λi hi=>h i (by simp [hi])) q
theorem Hg {ops:Array Oper} {l:List aK} {perm:List Nat} (hc:qV P N ops=some (l,perm)):P.follows .mixedOrders=true/\lA ops.toList 0=true/\Laid P N ops l (λq=>perm.getD q 0) (js l)/\∀(q:Nat) (d:aK),l[q]?=some d->cA d=true->d.op.guard=none:=by
 unfold qV at hc
 split at hc
 ·rename_i ios vr
  simp only at hc
  split at hc
  ·rename_i lW
   simp only [Option.some.injEq,Prod.mk.injEq] at hc
   obtain ⟨hl,hp⟩:=hc
   rw [hp] at hl lW
   rw [hl] at lW
   simp only [and_eq_true] at lW
   obtain ⟨⟨pd,iD⟩,aj⟩:=lW
   obtain ⟨g1,g2⟩:=uz vr
   have hpl:(db (ops.toList.map bB) []).length=ops.size:=by rw [qS];simp
   have vv:ios.length<=(db (ops.toList.map bB) []).length:=by rw [qS];simp [g1]
   obtain ⟨z1,z2⟩:=yo vv
   have hz:(fI ios (db (ops.toList.map bB) [])).length=ops.size:=by rw [z1,g1];simp
   unfold okF at aj
   simp only [and_eq_true,beq_iff_eq] at aj
   obtain ⟨⟨⟨⟨⟨⟨⟨o1,o2⟩,o3⟩,o4⟩,o5⟩,o6⟩,o7⟩,o8⟩:=aj
   rw [hpl] at o1 o2 o4 o7
   rw [all_eq_true] at o4 o5 o6 o7 o8
   have hlt:∀i∈perm,i<ops.size:=λi hi=>by simpa using o4 i hi
   have aA:∀q,q<ops.size->perm.getD q 0∈perm:=by
    intro q hq
    have:q<perm.length:=by omega
    rw [List.getD_eq_getElem?_getD,getElem?_eq_getElem this]
    exact List.getElem_mem this
   have iI:=Az o3
   have inj:∀q k,q<ops.size->k<ops.size->perm.getD q 0=perm.getD k 0->q=k:=by
    intro q k hq hk he
    have dw:q<perm.length:=by omega
    have bG:k<perm.length:=by omega
    rw [List.getD_eq_getElem?_getD,List.getD_eq_getElem?_getD,getElem?_eq_getElem dw,getElem?_eq_getElem bG] at he
    simp only [getD_some] at he
    have hp:=List.pairwise_iff_getElem.1 iI
    rcases Nat.lt_trichotomy q k with h | h | h
    ·exact absurd he (hp q k dw bG h)
    ·exact h
    ·exact absurd he.symm (hp k q bG dw h)
   have mem:∀{q d},l[q]?=some d->(d,q)∈l.zipIdx:=λh=>List.mem_zipIdx_iff_getElem?.2 h
   refine ⟨pd,iD,⟨o1,λq hq=>hlt _ (aA q hq),inj,?_,?_,?_,?_,?_,Nat.sub_le _ _,?_,?_⟩,?_⟩
   ·intro j hj
    have eu:j∈perm:=by
     apply byContradiction
     intro aP
     have pw:perm ⊆ (List.range ops.size).erase j:=by
      intro x hx
      have Kg:x≠j:=by rintro rfl;exact aP hx
      rw [List.mem_erase_of_ne Kg]
      exact mem_range.2 (hlt x hx)
     have:=se iI pw
     rw [List.length_erase_of_mem (mem_range.2 hj),List.length_range] at this
     omega
    obtain ⟨q,hq,e⟩:=List.mem_iff_getElem.1 eu
    exact ⟨q,by omega,by rw [List.getD_eq_getElem?_getD,getElem?_eq_getElem hq,getD_some,e]⟩
   ·intro q o d ho hd
    have iK:q<ops.size:=by rw [<-o1];exact (bu hd).1
    have dw:q<perm.length:=by omega
    have iH:=BU (l:=fI ios (db (ops.toList.map bB) [])) (fl:=uX (fI ios (db (ops.toList.map bB) []))) (p0:=perm) (perm:=perm) (λi hi=>by rw [hz];exact hlt i hi) q
    have jt:=hl
    unfold BT at jt
    rw [jt,hd] at iH
    rw [getElem?_eq_getElem dw] at iH
    simp only [bind_some] at iH
    have JC:perm.getD q 0=perm[q]:=by rw [List.getD_eq_getElem?_getD,getElem?_eq_getElem dw];rfl
    rw [JC] at ho
    cases vO:(fI ios (db (ops.toList.map bB) []))[perm[q]]? with
    | none=>rw [vO] at iH;cases iH
    | some dz=>
     rw [vO] at iH
     simp only [map_some,Option.some.injEq] at iH
     have hx:=(z2 _ _ vO).1
     have eU:=g2 _ o dz.op (by simpa using ho) hx
     obtain ⟨c1,c2,c3,c4,c5⟩:=qX eU
     have Lr:∀a,dz.op.op≠ .e (.fl a):=by
      intro a e
      rw [e] at c3
      exact Hj c3
     refine ⟨dz.op,eU,?_⟩
     have plain:d.op=dz.op->dz.op.dst=d.op.dst/\dz.op.guard=d.op.guard/\tmpsOf dz.op.op.cp=tmpsOf d.op.op.cp/\((cA d=false/\dz.op.op=d.op.op)∨∃a,dz.op.op=.e a.s5/\d.op.op=.e (.fl a)/\d.op.guard=none):=by
      intro e
      refine ⟨by rw [e],by rw [e],by rw [e],.inl ⟨?_,by rw [e]⟩⟩
      cases hf:cA d with
      | false=>rfl
      | true=>
       obtain ⟨a,ha⟩:=mq.1 hf
       rw [e] at ha
       exact absurd ha (Lr a)
     by_cases iF:(uX (fI ios (db (ops.toList.map bB) []))).contains perm[q]=true
     ·rw [if_pos iF] at iH
      have jr:d.op=oL dz.op:=by rw [iH]
      unfold oL at jr
      split at jr
      ·rename_i eo he hg
       split at jr
       ·rename_i a ha
        refine ⟨by rw [jr],by rw [jr,hg],?_,.inr ⟨a,by rw [he,Ef ha],by rw [jr],by rw [jr]⟩⟩
        rw [jr,he,<-Ef ha]
        cases a <;> rfl
       ·exact plain jr
      ·exact plain jr
     ·rw [if_neg iF] at iH
      exact plain (by rw [iH])
   ·intro q d hd k hk
    have h1:=o7 (d,q) (mem hd)
    rw [all_eq_true] at h1
    have:=h1 k (mem_range.2 hk)
    simpa using this
   ·intro j e he
    by_cases hj:j<ops.size
    ·have hg:ops.toList[j]?=some ops[j]:=by simp [hj]
     have:(ops.toList.map bB).getD j []=bB ops[j]:=by simp [getD,hj]
     rw [this] at he
     have:=qG iD j ops[j] hg e he
     omega
    ·have:(ops.toList.map bB).getD j []=[]:=by simp [getD,le_of_not_lt hj]
     rw [this] at he
     simp at he
   ·intro i j oi oj hi hj
    have h1:=o5 (oj,j) (mem hj)
    rw [all_eq_true] at h1
    exact h1 (oi,i) (mem hi)
   ·intro q d hd hq hE
    have h1:=o6 (d,q) (mem hd)
    simp only at h1
    rw [if_pos hq,hE] at h1
    simpa using h1
   ·intro q d hd hq
    have h1:=o6 (d,q) (mem hd)
    simp only at h1
    rw [if_neg (by omega)] at h1
    simpa using h1
   ·intro q d hd hf
    have h1:=o8 (d,q) (mem hd)
    simp only [hf,Bool.not_true,Bool.false_or,Option.isNone_iff_eq_none] at h1
    exact h1
  ·cases hc
 ·cases hc
theorem Kq {out:Bool} {id:Nat} {ops:Array Oper} {l:List aK} {perm:List Nat} {K:(Nat->Value)->ad->Prop} {f:Nat->Value} {h:ad} (hc:qV P N ops=some (l,perm)) (hi:dX P l 0 [] [] K f h):
  ∃f' h',cr P N out (.region id ops true) f h .normal f' h'/\K f' h':=by
 obtain ⟨pd,iD,L,fk⟩:=Hg hc
 obtain ⟨F,H,V,f1,f2,f3,T,_,_⟩:=wc hi
 simp only [zero_add] at f3
 refine ⟨F l.length,H l.length,?_,f3⟩
 intro S hS B ρ a w R
 refine wpIn_region_draw ?_
 intro t
 have vJ:Region.schedule (P.follows .mixedOrders) ops t=Region.linearise .any ops t:=by
  unfold Region.schedule
  rw [pd]
  simp
 rw [vJ]
 have iM:=B2 iD t
 have j9:∀(l:List aK) (i:Nat) (f:Nat->Value),bp V [] l i f=f:=by
  intro l
  induction l with
  | nil=>intro i f;rfl
  | cons a l ih=>intro i f;simp [bp,ih]
 obtain ⟨os,eW⟩:=kN L fk T (k:=0) (js l) (by omega)
 rw [zero_add] at eW
 have R0:bA P N B ρ f h a { w with drawn:=w.drawn+1 }:=R.mono (Tr.drew R.heap _) (R.heap.drew _)
 have rp:H 0=h:=f2
 have TG:Tr ρ (H 0) w ρ (H (js l)) { w with drawn:=w.drawn+1 }:=by
  rw [eW,rp]
  exact (Tr.drew R.heap _).trans (Tr.rh R0.heap os)
 have R1:bA P N B ρ (bp V [] l 0 (F 0)) (H (js l)) a { w with drawn:=w.drawn+1 }:=by
  rw [j9,f1,eW,rp]
  exact R0.mono (Tr.rh R0.heap os) (R0.heap.rh os)
 refine Ho L fk T iM (λj e hj=>by simp at hj) (λi hi=>by simp at hi) [] (λq=>by simp) (js l) (le_refl _) L.head (λe oe he _ hf=>?_) S B ρ a _ R1 (le_refl _) ?_ TG _ ?_
 ·constructor
  ·intro h;simp at h
  ·intro hlt
   -- an effect at the head is a float
   rename_i hE
   rw [L.low e oe he hlt hE] at hf
   cases hf
 ·intro q d hq hf _
  obtain ⟨a',oS⟩:=mq.1 hf
  obtain ⟨_,oo,g1,g2,g3,_,g5,_⟩:=nh T hq oS (fk q d hq hf)
  have JG:q<js l:=by
   apply byContradiction
   intro h'
   rw [L.high q d hq (by omega)] at hf
   cases hf
  constructor
  ·obtain ⟨LA,pg⟩:=kN L fk T (k:=0) q (by omega)
   rw [zero_add,rp] at pg
   cases hr:ρ (H q).length with
   | none=>rfl
   | some r=>
    have:=R.heap.lt hr
    rw [pg] at this
    simp at this
    omega
  ·obtain ⟨LA,pg⟩:=kN L fk T (k:=q+1) (js l-(q+1)) (by omega)
   rw [show q+1+(js l-(q+1))=js l by omega] at pg
   rw [pg]
   have dQ:=tY g1 (H q).length
   rw [<-g2] at dQ
   unfold fE
   rw [dQ]
   simp only [bind_some]
   rw [getElem?_append_left (by rw [g3];simp)]
 ·intro ae a' w' R' T'
  refine ⟨rfl,ae,R',?_⟩
  rw [rp] at T'
  exact T'
theorem Kp {out:Bool} {id:Nat} {ops:Array Oper} {l:List aK} {K:(Nat->Value)->ad->Prop} {f:Nat->Value} {h:ad} (hc:uy P N ops=some l) (hi:dX P l 0 [] [] K f h):
  ∃f' h',cr P N out (.region id ops true) f h .normal f' h'/\K f' h':=by
 unfold uy at hc
 split at hc
 ·rename_i l' hl
  simp at hc;subst hc
  exact Kr hl hi
 ·rw [Option.map_eq_some_iff] at hc
  obtain ⟨⟨l',perm⟩,hl,rfl⟩:=hc
  exact Kq hl hi
end
end
section
section
variable {P : Program} {N : Nat}
theorem CE (f:Nat->Value) (ks ls:List Nat) (xs:List Value) (h:xs=ls.map f):mJ (ey (ks++ls) (ks.map f++xs)) f:=by
 subst h
 rw [<-List.map_append]
 exact sf f (ks++ls)
theorem wA {out:Bool}:∀{c:Code} {hs fm:Hints} {ic:b9},cU P N c hs=some (ic,fm)->(out=true∨ew c=true)->∀{K:Exit->(Nat->Value)->ad->Prop} {f:Nat->Value} {h:ad},cJ P ic K f h->
  ∃e f' h',cr P N out c f h e f' h'/\K e f' h':=by
 intro c
 induction c with
 | skip=>
  intro hs fm ic hc ho K f h hi
  simp [cU] at hc
  obtain ⟨rfl,_⟩:=hc
  exact ⟨.normal,f,h,λS hS B ρ a w R=>wpIn_skip ⟨rfl,ρ,R,Tr.refl R.heap⟩,hi⟩
 | region id ops draw=>
  intro hs fm ic hc ho K f h hi
  cases draw with
  | true=>
   simp only [cU] at hc
   split at hc
   ·rename_i l hl
    split at hc
    ·rename_i pa
     simp at hc
     obtain ⟨rfl,_⟩:=hc
     have dc:=Iv (Hm pa) hi
     rw [uC] at dc
     obtain ⟨f',h',r1,r2⟩:=Kp (id:=id) hl dc
     exact ⟨.normal,f',h',r1,r2⟩
    ·cases hc
   ·cases hc
  | false=>
   simp only [cU] at hc
   split at hc
   ·rename_i l hl
    split at hc
    ·rename_i pa
     simp only [Option.some.injEq] at hc
     have he:ic=(k8 (jX l) hs).1:=by rw [hc]
     subst he
     obtain ⟨f',h',r1,r2⟩:=MX (i:=0) (os:=ops.toList) (ops:=ops) (λk o hk=>by simpa using hk) (by rw [uV];exact hl) (K6 pa) hi
     refine ⟨.normal,f',h',cr.region ?_,r2⟩
     rw [List.range_eq_range']
     simpa using r1
    ·cases hc
   ·simp at hc
    obtain ⟨rfl,_⟩:=hc
    exact (show False from hi).elim
 | seq x y wk wo=>
  intro hs fm ic hc ho K f h hi
  have vE:out=true∨ew x=true:=ho.imp id λh=>by simp only [ew,and_eq_true] at h;exact h.1
  have vF:out=true∨ew y=true:=ho.imp id λh=>by simp only [ew,and_eq_true] at h;exact h.2
  have both:∀{a b:b9} {h0 gO hs2:Hints} {ls:List Nat},cU P N x hs=some (a,h0)->cU P N y gO=some (b,hs2)->cJ P (.seq a (oG ls b)) K f h->∃e f' h',cr P N out (.seq x y) f h e f' h'/\K e f' h':=by
   intro a b h0 gO hs2 ls ha hb hi
   obtain ⟨e,bF,h₁,r1,r2⟩:=wk ha vE hi
   by_cases he:e=.normal
   ·subst he
    obtain ⟨Is,hw,r3⟩:=Ay r2
    obtain ⟨e',It,rR,s1,s2⟩:=wo hb vF r3
    exact ⟨e',It,rR,r1.seq (s1.weaken hw),s2⟩
   ·refine ⟨e,bF,h₁,r1.NN he,?_⟩
    cases e <;> first | exact absurd rfl he | exact r2
  simp only [cU] at hc
  split at hc
  ·rename_i a h0 gO ha
   split at hc
   ·rename_i b hs2 hb
    simp at hc
    obtain ⟨rfl,_⟩:=hc
    exact both ha hb hi
   ·cases hc
  ·rename_i a ha
   split at hc
   ·rename_i b hs2 hb
    simp at hc
    obtain ⟨rfl,_⟩:=hc
    exact both (ls:=[]) ha hb hi
   ·cases hc
  ·cases hc
 | cond c x y wk wo=>
  intro hs fm ic hc ho K f h hi
  have vE:out=true∨ew x=true:=ho.imp id λh=>by simp only [ew,and_eq_true] at h;exact h.1
  have vF:out=true∨ew y=true:=ho.imp id λh=>by simp only [ew,and_eq_true] at h;exact h.2
  simp only [cU] at hc
  split at hc
  ·rename_i aj
   split at hc
   ·rename_i a gO ha
    split at hc
    ·rename_i b hs2 hb
     simp at hc
     obtain ⟨rfl,_⟩:=hc
     rw [BR] at hi
     simp only [jj] at hi
     split at hi
     ·rename_i t ht
      cases t
      ·simp at hi
       obtain ⟨e,bF,h₁,r1,r2⟩:=wo hb vF hi
       exact ⟨e,bF,h₁,cr.cond aj ht (by simpa using r1),r2⟩
      ·simp at hi
       obtain ⟨e,bF,h₁,r1,r2⟩:=wk ha vE hi
       exact ⟨e,bF,h₁,cr.cond aj ht (by simpa using r1),r2⟩
     ·exact hi.elim
    ·cases hc
   ·cases hc
  ·cases hc
 | block id c ih=>
  intro hs fm ic hc ho K f h hi
  simp only [cU] at hc
  split at hc
  ·rename_i a gO ha
   simp at hc
   obtain ⟨rfl,_⟩:=hc
   obtain ⟨e,bF,h₁,r1,r2⟩:=ih ha (ho.imp (λh=>h) λh=>h) hi
   refine ⟨_,bF,h₁,r1.block,?_⟩
   cases e with
   | exit i=>
    simp only [bO] at r2⊢
    split <;> rename_i h
    ·rw [if_pos h] at r2;exact r2
    ·rw [if_neg h] at r2;exact r2
   | _=>exact r2
  ·cases hc
 | loop c ih=>
  intro hs fm ic hc ho K f h hi
  simp only [cU] at hc
  split at hc
  ·rename_i ks ls gO
   split at hc
   ·rename_i a hs2 ha
    simp at hc
    obtain ⟨rfl,_⟩:=hc
    obtain ⟨J,μ,h0,JQ⟩:=hi
    have key:∀(n:Nat) (xs:List Value) (hh:ad),μ xs hh=n->J xs hh->∃e f' h',gD P N out c (ey (ks++ls) (ks.map f++xs)) hh e f' h'/\K e f' h':=by
     intro n
     induction n using Nat.strongRecOn with
     | _ n ke=>
      intro xs hh hn hJ
      obtain ⟨e,bF,h₁,r1,r2⟩:=ih ha (ho.imp (λh=>h) λh=>h) (JQ xs hh hJ)
      by_cases he:e=.normal
      ·subst he
       obtain ⟨hk,IF,hlt⟩:=r2
       obtain ⟨e',f',h',s1,s2⟩:=ke (μ (ls.map bF) h₁) (by omega) (ls.map bF) h₁ rfl IF
       refine ⟨e',f',h',gD.next r1 (s1.weaken ?_),s2⟩
       rw [<-hk]
       exact CE bF ks ls _ rfl
      ·refine ⟨e,bF,h₁,gD.leave he r1,?_⟩
       cases e <;> first | exact absurd rfl he | exact r2
    obtain ⟨e,f',h',s1,s2⟩:=key _ (ls.map f) h rfl h0
    exact ⟨e,f',h',(s1.weaken (CE f ks ls _ rfl)).run,s2⟩
   ·cases hc
  ·cases hc
 | exit id=>
  intro hs fm ic hc ho K f h hi
  simp [cU] at hc
  obtain ⟨rfl,_⟩:=hc
  exact ⟨.exit id,f,h,λS hS B ρ a w R=>wpIn_exit ⟨rfl,ρ,R,Tr.refl R.heap⟩,hi⟩
 | ret=>
  intro hs fm ic hc ho K f h hi
  simp [cU] at hc
  obtain ⟨rfl,_⟩:=hc
  exact ⟨.ret,f,h,λS hS B ρ a w R=>wpIn_ret ⟨rfl,ρ,R,Tr.refl R.heap⟩,hi⟩
 | rangeFunc g ps dM body=>
  intro hs fm ic hc ho K f h hi
  have ho:out=true:=ho.resolve_right (by simp [ew])
  subst ho
  simp only [cU] at hc
  split at hc
  ·rename_i ls gO
   split at hc
   ·rename_i hk
    simp at hc
    obtain ⟨rfl,_⟩:=hc
    simp only [and_eq_true] at hk
    obtain ⟨h',r1,r2⟩:=MW hk.1 hi
    exact ⟨.normal,f,h',r1,r2⟩
   ·cases hc
  ·cases hc
 | _=>intro hs fm ic hc;simp [cU] at hc
end
end
section
section
variable {P : Program} {ρ : ai} {h : ad} {w : World}
def nU:List Tmp->List Value->(Nat->Value)->Nat->Value
 | p::ps,v::vs,f=>nU ps vs (lg f p v)
 | _,_,f=>f
theorem DC {N:Nat}:∀{ps:List Tmp} {args args':List Value} {f:Nat->Value} {tmps:Array Value},aC ρ args args'->(∀p∈ps,p<N)->tmps.size=N->(∀t,af ρ (f t) (tmps.getD t Go.undef))->
  ((ps.zip args').foldl (λ(t:Array Value) (p,v)=>t.setIfInBounds p v) tmps).size=N/\
   ∀t,af ρ (nU ps args f t) (((ps.zip args').foldl (λ(t:Array Value) (p,v)=>t.setIfInBounds p v) tmps).getD t Go.undef)
 | [],args,args',f,tmps,_,_,hs,hf=>⟨hs,hf⟩
 | p::ps,_,_,f,tmps,.nil,_,hs,hf=>⟨hs,hf⟩
 | p::ps,_,_,f,tmps,.cons (x:=x) (y:=y) ha hr,hp,hs,hf=>by
  simp only [List.zip_cons_cons,List.foldl_cons,nU]
  refine DC hr (λq hq=>hp q (by simp [hq])) (by simpa using hs) ?_
  intro t
  simp only [iY]
  by_cases ht:t=p
  ·subst ht
   have:t<tmps.size:=by rw [hs];exact hp t (by simp)
   simp [Array.getD,this]
   exact ha
  ·rw [if_neg ht]
   have e:(tmps.setIfInBounds p y).getD t Go.undef=tmps.getD t Go.undef:=by
    simp only [Array.getD_eq_getD_getElem?,Array.getElem?_setIfInBounds]
    rw [if_neg (by omega)]
   rw [e]
   exact hf t
theorem marks.put {B:Nat} {l:Nat} {o:Obj}:∀{ds:List Deferred},(∀d∈ds,d≠mark l)->marks B ds w->marks B ds (w.putObj l o)
 | [],_,h=>by simpa [marks] using h
 | d::ds,aV,⟨⟨D,h1,h2,h3,h4⟩,h5⟩=>by
  refine ⟨⟨D,h1,h2,?_,h4⟩,marks.put (λd hd=>aV d (by simp [hd])) h5⟩
  rw [mD]
  ·exact h3
  ·rintro rfl
   exact aV d (by simp) h1
theorem marks.ne {B l:Nat} {rec:Loop} (hl:w.heap[l]?=some (.loop rec)):∀{ds:List Deferred},marks B ds w->∀d∈ds,d≠mark l
 | [],_,d,hd=>by simp at hd
 | d::ds,⟨⟨D,h1,h2,h3,h4⟩,h5⟩,d',hd=>by
  rcases mem_cons.1 hd with rfl | hd
  ·rintro e
   rw [h1] at e
   obtain rfl:=B7 e
   rw [hl] at h3
   cases h3
  ·exact marks.ne hl h5 d' hd
theorem Ce {ae:ai} {h':ad} {w':World} (H':av P ae h' w') (T:Tr ρ h w ae h' w') {l:Nat} {rec:Loop} (hlt:l<w.heap.size) (hl:w'.heap[l]?=some (.loop rec))
  (no:∀j s,ρ j=some s->s.aD=l->¬aH h j):∀j s,ae j=some s->s.aD=l->¬bC h' j:=by
 intro j s hj hs hv
 obtain ⟨c,ls,vs,hc⟩:=H'.BO hl hj hs hv
 cases hr:ρ j with
 | some s'=>
  have:=T.ext j s' hr
  rw [hj] at this
  cases this
  exact no j s hr hs (T.kinds j (T.cW j s hr) (.inr (.inr (.inl ⟨_,_,_,hc⟩))))
 | none=>
  obtain ⟨_,q⟩:=T.fresh j s hj hr
  rcases q with q | ⟨j',s',q1,q2,q3⟩
  ·omega
  ·exact no j' s' q1 (q2.trans hs) q3
theorem av.sG (H:av P ρ h w) {i:Nat} {r:RI} {o:ay} {x:Obj} (hi:ρ i=some r) (no:∀j s,ρ j=some s->s.aD=r.aD->¬bC h j) (ho:eN ρ (w.putObj r.aD x) r o):
  av P ρ (h.set i o) (w.putObj r.aD x):=by
 have hlt:=H.lt hi
 have ml:∀j,j≠i->aH (h.set i o) j->aH h j:=by
  intro j e hm
  unfold aH at hm⊢
  rw [getElem?_set_ne (Ne.symm e)] at hm
  exact hm
 have ll:∀j,j≠i->bC (h.set i o) j->bC h j:=by
  intro j e hm
  unfold bC at hm⊢
  rw [getElem?_set_ne (Ne.symm e)] at hm
  exact hm
 refine ⟨?_,?_,H.aL⟩
 ·intro j s hj
  by_cases e:j=i
  ·subst e
   rw [hi] at hj
   cases hj
   exact ⟨o,by rw [getElem?_set_self hlt],ho⟩
  ·obtain ⟨o',bm,hr⟩:=H.obj j s hj
   refine ⟨o',by rw [getElem?_set_ne (Ne.symm e)];exact bm,?_⟩
   by_cases hd:o'=.dead
   ·subst hd;trivial
   ·refine hr.mono (.refl _) (mD ?_)
    intro e'
    exact no j s hj e' ⟨o',bm,hd⟩
 ·intro a b s t ha hb bT hm hl
  by_cases ea:a=i <;> by_cases eb:b=i
  ·omega
  ·subst ea
   rw [hi] at ha;cases ha
   exact absurd (ll b eb hl) (no b t hb bT.symm)
  ·subst eb
   rw [hi] at hb;cases hb
   exact absurd (ml a ea hm).live (no a s ha bT)
  ·exact H.inj a b s t ha hb bT (ml a ea hm) (ll b eb hl)
theorem Tr.sG {ae:ai} {h':ad} {w':World} {i:Nat} (hm:aH h i) (T:Tr ρ (h.set i .dead) w ae h' w') (o:ay):Tr ρ h w ae (h'.set i o) w':=by
 have ml:∀j,aH (h.set i .dead) j->aH h j:=by
  intro j hj
  by_cases e:j=i
  ·subst e;exact hm
  ·unfold aH at hj⊢
   rw [getElem?_set_ne (Ne.symm e)] at hj
   exact hj
 exact {
  ext:=T.ext
  len:=by simpa using T.len
  cW:=λj s hj=>by simpa using T.cW j s hj
  kinds:=by
   intro j hj iG
   by_cases e:j=i
   ·subst e;exact hm
   ·refine ml j (T.kinds j (by simpa using hj) ?_)
    unfold aH at iG⊢
    rw [getElem?_set_ne (Ne.symm e)] at iG
    exact iG
  fresh:=by
   intro j s h1 h2
   obtain ⟨q1,q2⟩:=T.fresh j s h1 h2
   refine ⟨by simpa using q1,q2.imp (λh=>h) ?_⟩
   rintro ⟨j',s',a,b,c⟩
   exact ⟨j',s',a,b,ml j' c⟩
  cu:=T.cu
  cq:=λk hk aP=>T.cq k hk λj s hj hs Jp=>aP j s hj hs (ml j Jp)
  os:=T.os
  tape:=T.tape
  output:=T.output }
theorem Tr.DL {i:Nat} {r:RI} (hd:∀j s,ρ j=some s->j<h.length) (hi:ρ i=some r) {h₁:ad} (hl:h₁.length=h.length) (hm:aH h₁ i) (x:Obj):Tr ρ h₁ w ρ h₁ (w.putObj r.aD x) where
 ext:=.refl _
 len:=le_refl _
 cW:=λj s hj=>by rw [hl];exact hd j s hj
 kinds:=λ_ _ h=>h
 fresh:=λj s h1 h2=>by rw [h1] at h2;cases h2
 cu:=by rw [World.putObj_size];exact le_refl _
 cq:=λk hk aP=>mD λe=>aP i r hi e.symm hm
 os:=rfl
 tape:=rfl
 output:=rfl
theorem NT {h:ad} {i:Nat} {o:ay} (hi:h[i]?=some o):h.set i o=h:=by
 apply List.ext_getElem?
 intro j
 by_cases e:j=i
 ·subst e
  rw [getElem?_set_self (bu hi).1,hi]
 ·rw [getElem?_set_ne (Ne.symm e)]
theorem OS {i:Nat} {c:od} {ls:List Nat} {vs args:List Value} {ia ib:b9} {gO hs2 JS JU:Hints} {K:Value->ad->Prop} (hi:h[i]?=some (.loop c ls vs)) (hn:args.length=c.ps.size)
  (hps:c.ps.all (·<c.N)=true) (ha:cU P c.N c.dM gO=some (ia,JS)) (hb:cU P c.N c.body hs2=some (ib,JU)) (na:ew c.dM=true) (nb:ew c.body=true)
  (hw:cJ P ia (λe f1 h1=>e=.normal/\h1[i]?=some .dead/\cJ P ib (λe _ h2=>e=.normal/\h2[i]?=some .dead/\K (.bool true) (h2.set i (.loop c ls vs))) f1 h1) (nU c.ps.toList args (ey ls vs)) (h.set i .dead)):
  pF P i args h K:=by
 obtain ⟨e1,f1,h1,r1,rfl,d1,rN⟩:=wA (out:=false) ha (.inr na) hw
 obtain ⟨e2,f2,h2,r2,rfl,d2,hk⟩:=wA (out:=false) hb (.inr nb) rN
 refine ⟨.bool true,h2.set i (.loop c ls vs),?_,hk⟩
 intro ρ r args' w rL gJ H
 have pc:aH h i:=.inr (.inr (.inl ⟨_,_,_,hi⟩))
 obtain ⟨o,ho,vC⟩:=H.obj i r rL
 rw [hi] at ho
 cases ho
 obtain ⟨rec,g1,g2,g3,g4,g5,g6,g7,g8⟩:=vC
 have hlt:=(Array.getElem?_eq_some_iff.1 g1).1
 have fO:args'.size=rec.params.size:=by
  have:=gJ.length
  rw [g6,<-hn,this]
  simp
 refine ⟨rec.fn,_,rec.assign,rec.body,run_yield g1 fO,?_⟩
 rw [g4,g5]
 have oW:(rec.params.zip args').foldl (λ(t:Array Value) (p,v)=>t.setIfInBounds p v) rec.tmps=(c.ps.toList.zip args'.toList).foldl (λ(t:Array Value) (p,v)=>t.setIfInBounds p v) rec.tmps:=by
  rw [g6,<-Array.toList_zip,Array.foldl_toList]
 obtain ⟨p1,p2⟩:=DC (N:=c.N) (ps:=c.ps.toList) (f:=ey ls vs) (tmps:=rec.tmps) gJ (by
  intro p hp
  rw [Array.all_eq_true'] at hps
  exact of_decide_eq_true (hps p (by simpa using hp))) g7 g8
 have R0:bA P c.N w.heap.size ρ (nU c.ps.toList args (ey ls vs)) (h.set i .dead) { tmps:=(rec.params.zip args').foldl (λ(t:Array Value) (p,v)=>t.setIfInBounds p v) rec.tmps,defers:=[] } w:=
  ⟨by rw [oW];exact p1,le_refl _,λt=>by rw [oW];exact p2 t,H.kill i⟩
 refine roundIn_of_wpIn (F:=Fence.wide) trivial ?_
 refine wpIn_mono (r1 (some r.aD) (λh=>by cases h) _ ρ _ w R0) ?_
 rintro e a1 w1 ⟨rfl,qh,R1,T1⟩
 have u1:∀j s,ρ j=some s->s.aD=r.aD->¬aH (h.set i .dead) j:=by
  intro j s hj hs hm
  by_cases e:j=i
  ·subst e
   unfold aH at hm
   rw [getElem?_set_self (H.lt rL)] at hm
   rcases hm with ⟨_,_,h1⟩ | ⟨_,h1⟩ | ⟨_,_,_,h1⟩ | ⟨_,_,h1⟩ | ⟨_,_,_,h1⟩ | ⟨_,_,_,_,h1⟩ <;> cases h1
  ·refine e (H.inj j i s r hj rL hs ?_ pc.live)
   unfold aH at hm⊢
   rw [getElem?_set_ne (Ne.symm e)] at hm
   exact hm
 have l1:w1.heap[r.aD]?=some (.loop rec):=(T1.cq _ hlt u1).trans g1
 have vy:=(Array.getElem?_eq_some_iff.1 l1).1
 refine ⟨_,run_beginRound l1 g2,?_⟩
 have wN:=Ce R1.heap T1 hlt l1 u1
 have l2:(w1.putObj r.aD (.loop { rec with state:=.busy })).heap[r.aD]?=some (.loop { rec with state:=.busy }):=World.putObj_heap_same vy
 have R2:bA P c.N w.heap.size qh f1 h1 a1 (w1.putObj r.aD (.loop { rec with state:=.busy })):=
  ⟨R1.size,marks.put (marks.ne l1 R1.defers) R1.defers,R1.tmp,R1.heap.put wN _⟩
 refine wpIn_mono (r2 (some r.aD) (λh=>by cases h) _ qh a1 _ R2) ?_
 rintro e a3 w3 ⟨rfl,yq,R3,T3⟩
 have l3:w3.heap[r.aD]?=some (.loop { rec with state:=.busy }):=(T3.cq _ (by simpa using vy) λj s hj hs hm=>wN j s hj hs hm.live).trans l2
 have Lq:=Ce R3.heap T3 (by simpa using vy) l3 λj s hj hs hm=>wN j s hj hs hm.live
 have JM:({ ({ rec with state:=.busy }:Loop) with state:=if (none:Option Code).isNone then .ready else .done,pending:=none }:Loop)=rec:=by
  cases rec
  simp only at g2 g3
  subst g2
  subst g3
  rfl
 have he:=run_endRound (P:=P) none l3
 rw [JM] at he
 have vP:qh i=some r:=T1.ext _ _ rL
 have vQ:yq i=some r:=T3.ext _ _ vP
 have Jm:=(Array.getElem?_eq_some_iff.1 l3).1
 refine ⟨_,_,he,.bool true,yq,rfl,.bool _,?_,?_⟩
 ·refine R3.heap.sG vQ Lq ⟨rec,World.putObj_heap_same Jm,g2,g3,g4,g5,g6,g7,λt=>(g8 t).mono (T1.ext.trans T3.ext)⟩
 ·have m1:aH (h1.set i (.loop c ls vs)) i:=.inr (.inr (.inl ⟨c,ls,vs,getElem?_set_self (R1.heap.lt vP)⟩))
  have m3:aH (h2.set i (.loop c ls vs)) i:=.inr (.inr (.inl ⟨c,ls,vs,getElem?_set_self (R3.heap.lt vQ)⟩))
  have A:=T1.sG pc (.loop c ls vs)
  have B:=Tr.DL (w:=w1) (λj s hj=>R1.heap.lt hj) vP (h₁:=h1.set i (.loop c ls vs)) (by simp) m1 (.loop { rec with state:=.busy })
  have e1:(h1.set i (.loop c ls vs)).set i .dead=h1:=by rw [List.set_set,NT d1]
  have C:Tr qh (h1.set i (.loop c ls vs)) _ yq (h2.set i (.loop c ls vs)) w3:=Tr.sG m1 (by rw [e1];exact T3) _
  have D:=Tr.DL (w:=w3) (λj s hj=>R3.heap.lt hj) vQ (h₁:=h2.set i (.loop c ls vs)) (by simp) m3 (.loop rec)
  exact ((A.trans B).trans C).trans D
end
end
section
inductive ee where
 | tmp (t:Nat)
 | cell (agg:Bool) (n:Nat) (a:Nat)
def kU (r:ee) (f:Nat->Value) (h:ad):Option Value:=
 match r with
 | .tmp t=>some (f t)
 | .cell agg n a=>aw agg n h (f a)
def fR:List ee->(Nat->Value)->ad->Option (List Value)
 | [],_,_=>some []
 | r::rs,f,h=>match kU r f h,fR rs f h with
  | some v,some vs=>some (v::vs)
  | _,_=>none
def pack:List Value->Value
 | [v]=>v
 | vs=>.tuple vs.toArray
def kp:List ee->(Nat->Value)->ad->(List Value->Prop)->Prop
 | [],_,_,k=>k []
 | .tmp t::rs,f,h,k=>kp rs f h λvs=>k (f t::vs)
 | .cell agg n a::rs,f,h,k=>bH (aw agg n h (f a)) λv=>kp rs f h λvs=>k (v::vs)
def xu (rs:List ee) (K:Value->ad->Prop) (f:Nat->Value) (h:ad):Prop:=kp rs f h λvs=>K (pack vs) h
theorem xw:∀{rs:List ee} {f:Nat->Value} {h:ad} {k:List Value->Prop},kp rs f h k->∃vs,fR rs f h=some vs/\k vs
 | [],f,h,k,hr=>⟨[],rfl,hr⟩
 | .tmp t::rs,f,h,k,hr=>by
  obtain ⟨vs,h1,h2⟩:=xw (rs:=rs) hr
  exact ⟨f t::vs,by simp [fR,kU,h1],h2⟩
 | .cell agg n a::rs,f,h,k,hr=>by
  simp only [kp,bH] at hr
  split at hr
  ·rename_i v hv
   obtain ⟨vs,h1,h2⟩:=xw (rs:=rs) hr
   exact ⟨v::vs,by simp [fR,kU,h1,hv],h2⟩
  ·exact hr.elim
def zl (rs:List ee) (K:Value->ad->Prop):Exit->(Nat->Value)->ad->Prop
 | .normal,f,h=>xu rs K f h
 | .ret,f,h=>xu rs K f h
 | _,_,_=>False
def cj (args:List Value):Nat->Value:=λj=>args.getD j undef
def qY (P:Program):ResultVar->Option ee
 | .tmp t=>some (.tmp t)
 | .cell a t=>
  match P.underlying t with
  | some d=>if cy P t&&(fG d||P.cellsOf t==1) then some (.cell (fG d) (P.cellsOf t) a) else none
  | none=>none
def mZ (P:Program):List ResultVar->Option (List ee)
 | []=>some []
 | r::rs=>match qY P r,mZ P rs with
  | some x,some xs=>some (x::xs)
  | _,_=>none
def cH (P:Program) (F:FuncId) (hs:Hints):Option (Nat×b9×List ee):=
 match P.funcs[F]? with
 | some fn=>match fn.body with
  | some c=>match cU P fn.ntmps c hs,mZ P fn.results.toList with
   | some (ic,_),some rs=>some (fn.ntmps,ic,rs)
   | _,_=>none
  | none=>none
 | none=>none
def dy:Option (Nat×b9×List ee)->b9
 | some (_,c,_)=>c
 | none=>.skip
def b9.l:b9->b9
 | .seq a _=>a
 | .cut _ c=>c
 | .cond _ a _=>a
 | .block _ c=>c
 | .loop _ _ c=>c
 | c=>c
def b9.r:b9->b9
 | .seq _ b=>b
 | .cond _ _ b=>b
 | c=>c
section
variable {P : Program} {w : World} {ρ : ai} {h : ad}
def mG (tmps:Array Value):ResultVar->Sem Value
 | .tmp t=>pure (tmps.getD t Go.undef)
 | .cell b t=>do loadVar t (<-asAddr (tmps.getD b Go.undef))
theorem MZ (fn:Func) (tmps:Array Value):results fn tmps=(do let vs <-fn.results.mapM (mG tmps);pure (if h:vs.size=1 then vs[0] else .tuple vs)):=by
 have e:(λr:ResultVar=>(match r with
   | .tmp t=>(pure (tmps.getD t Go.undef):Sem Value)
   | .cell a t=>do loadVar t (<-asAddr (tmps.getD a Go.undef))))=mG tmps:=by
  funext r
  cases r <;> rfl
 rw [<-e]
 rfl
theorem NL {N B:Nat} {f:Nat->Value} {a:Act} (R:bA P N B ρ f h a w) {r:ResultVar} {x:ee} (hc:qY P r=some x) {v:Value} (hv:kU x f h=some v):
  ∃v',(mG a.tmps r).run P w=.ok v' w/\af ρ v v':=by
 cases r with
 | tmp t=>
  simp [qY] at hc;subst hc
  simp [kU] at hv;subst hv
  exact ⟨_,rfl,R.tmp t⟩
 | cell b t=>
  simp only [qY] at hc
  split at hc
  ·rename_i d ht
   split at hc
   ·rename_i hk
    simp at hc;subst hc
    simp only [and_eq_true] at hk
    simp only [kU] at hv
    obtain ⟨v',q1,q2⟩:=DZ R.heap ht hk.1 hv (R.tmp b)
    refine ⟨v',?_,q2⟩
    have gP:=hv
    unfold aw at gP
    split at gP
    ·rename_i i o I5
     have:=R.tmp b
     rw [I5] at this
     obtain ⟨r',_,e⟩:=this.pT
     simp only [mG]
     rw [e] at q1⊢
     simpa [Instr.loadAt,Instr.sureAddr,asAddr] using q1
    ·cases gP
   ·cases hc
  ·cases hc
theorem D5 {α β:Type} (g:α->Sem β) (w:World):∀{xs:List α} {ys:List β},(∀(k:Nat) (x:α),xs[k]?=some x->∃y,ys[k]?=some y/\(g x).run P w=.ok y w)->xs.length=ys.length->(xs.mapM g).run P w=.ok ys w
 | [],[],_,_=>rfl
 | x::xs,y::ys,h,hl=>by
  obtain ⟨y',h1,h2⟩:=h 0 x rfl
  simp at h1;subst h1
  have ih:=D5 g w (xs:=xs) (ys:=ys) (λk a hk=>by simpa using h (k+1) a (by simpa using hk)) (by simpa using hl)
  simp only [List.mapM_cons,Sem.run_bind,h2,Result.andThen_ok,ih,Sem.run_pure]
theorem D7 {N B:Nat} {f:Nat->Value} {a:Act} (R:bA P N B ρ f h a w):∀{l:List ResultVar} {rs:List ee} {vs:List Value},mZ P l=some rs->fR rs f h=some vs->
  ∃dh:List Value,aC ρ vs dh/\l.length=dh.length/\∀(k:Nat) (r:ResultVar),l[k]?=some r->∃y,dh[k]?=some y/\(mG a.tmps r).run P w=.ok y w
 | [],rs,vs,hc,hv=>by
  simp [mZ] at hc;subst hc
  simp [fR] at hv;subst hv
  exact ⟨[],.nil,rfl,λk r hk=>by simp at hk⟩
 | r::l,rs,vs,hc,hv=>by
  simp only [mZ] at hc
  split at hc
  ·rename_i x xs h1 h2
   simp at hc;subst hc
   simp only [fR] at hv
   split at hv
   ·rename_i v vs h3 h4
    simp at hv;subst hv
    obtain ⟨v',q1,q2⟩:=NL R h1 h3
    obtain ⟨dh,s1,s2,s3⟩:=D7 R h2 h4
    refine ⟨v'::dh,.cons q2 s1,by simp [s2],?_⟩
    intro k r' hk
    cases k with
    | zero=>simp at hk;subst hk;exact ⟨v',rfl,q1⟩
    | succ k=>simpa using s3 k r' (by simpa using hk)
   ·cases hv
  ·cases hc
theorem NM {N B:Nat} {f:Nat->Value} {a:Act} (R:bA P N B ρ f h a w) {fn:Func} {rs:List ee} {vs:List Value} (hc:mZ P fn.results.toList=some rs) (hv:fR rs f h=some vs):
  ∃v',(results fn a.tmps).run P w=.ok v' w/\af ρ (pack vs) v':=by
 obtain ⟨dh,h1,h2,h3⟩:=D7 R hc hv
 have hm:=D5 (P:=P) (mG a.tmps) w h3 h2
 have bV:(fn.results.mapM (mG a.tmps)).run P w=.ok dh.toArray w:=by
  rw [Array.mapM_eq_mapM_toList]
  simp only [Sem.run_map,hm,Result.andThen_ok]
 refine ⟨if h:dh.toArray.size=1 then dh.toArray[0] else .tuple dh.toArray,?_,?_⟩
 ·rw [MZ]
  simp only [Sem.run_bind,bV,Result.andThen_ok,Sem.run_pure]
 ·cases h1 with
  | nil=>simpa [pack] using af.jF (ρ:=ρ) .nil
  | cons a1 a2=>
   cases a2 with
   | nil=>simpa [pack] using a1
   | cons b1 b2=>simpa [pack] using af.jF (.cons a1 (.cons b1 b2))
theorem Iq {args:List Value} {args':Array Value} (hv:aC ρ args args'.toList) (N:Nat) (t:Nat):af ρ (cj args t) ((args'++replicate (N-args'.size) Go.undef).getD t Go.undef):=by
 unfold cj
 have hl:=hv.length
 by_cases ht:t<args.length
 ·obtain ⟨y,hy,hr⟩:=hv.get (k:=t) (x:=args[t]) (getElem?_eq_getElem ht)
  have hs:t<args'.size:=by simpa using (by omega:t<args'.toList.length)
  have e1:args.getD t undef=args[t]:=by simp [getD,ht]
  rw [e1,Array.getD_eq_getD_getElem?,Array.getElem?_append_left hs]
  simp only [Array.getElem?_toList] at hy
  rw [hy]
  exact hr
 ·have e1:args.getD t undef=undef:=by simp [getD,le_of_not_lt ht]
  have e2:(args'++replicate (N-args'.size) Go.undef).getD t Go.undef=undef:=by
   have hs:¬t<args'.size:=by simp at hl;omega
   rw [Array.getD_eq_getD_getElem?,Array.getElem?_append_right (by omega)]
   by_cases h2:t-args'.size<N-args'.size
   ·simp [h2]
   ·simp [h2]
  rw [e1,e2]
  exact af.undef _
theorem Tr.K1 {ae:ai} {h':ad} {w':World} (T:Tr ρ h w ae h' w') {l:Nat} (hl:w.heap.size<=l) (o:Obj):Tr ρ h w ae h' (w'.putObj l o) where
 ext:=T.ext
 len:=T.len
 cW:=T.cW
 kinds:=T.kinds
 fresh:=T.fresh
 cu:=by rw [World.putObj_size];exact T.cu
 cq:=λk hk aP=>by rw [mD (by omega)];exact T.cq k hk aP
 os:=T.os
 tape:=T.tape
 output:=T.output
theorem B0 {ae:ai} {h':ad} {fn:Func} {tmps:Array Value} {Q:Ending->World->Prop}:∀{ds:List Deferred} {w':World},marks w.heap.size ds w'->av P ae h' w'->Tr ρ h w ae h' w'->
  (∀ez,av P ae h' ez->Tr ρ h w ae h' ez->∃v,(results fn tmps).run P ez=.ok v ez/\Q (.returned v) ez)->LeavesInM Fence.wide 0 P fn tmps Q ds .returning w'
 | [],w',_,H,T,hq=>hq w' H T
 | d::ds,w',⟨⟨D,h1,h2,h3,h4⟩,h5⟩,H,T,hq=>by
  refine ⟨by simp,.inl ⟨D,_,by rw [h1];rfl,run_takeDeferred h3,?_⟩⟩
  exact B0 (marks.put (λd hd=>h4 d hd) h5) (H.put (λj s hj hs=>H.wO h3 hj hs) _) (T.K1 h2 _) hq
theorem BB {F:FuncId} {N:Nat} {ic:b9} {rs:List ee} {hs:Hints} (hc:cH P F hs=some (N,ic,rs)) {args:List Value} (ha:args.length<=N) {K:Value->ad->Prop}
  (hi:cJ P ic (zl rs K) (cj args) h):h9 P F args h K:=by
 unfold cH at hc
 split at hc
 ·rename_i fn hf
  split at hc
  ·rename_i c hb
   split at hc
   ·rename_i Pz _ M4 h1 h2
    simp at hc
    obtain ⟨hN,rfl,rfl⟩:=hc
    obtain ⟨e,f',h',r1,r2⟩:=wA (out:=true) h1 (.inl rfl) hi
    have pj:(e=.normal∨e=.ret)/\xu M4 K f' h':=by
     cases e <;> first | exact ⟨.inl rfl,r2⟩ | exact ⟨.inr rfl,r2⟩ | exact r2.elim
    obtain ⟨he,pj⟩:=pj
    obtain ⟨vs,Kd,pj⟩:=xw pj
    ·refine ⟨pack vs,h',?_,pj⟩
     intro ρ args' w hv H
     refine callsIn_wide.1 (callsIn_of_wp_marks (F:=Fence.wide) (n:=0) hf hb trivial ?_ rfl)
     have fO:args'.size=args.length:=by have:=hv.length;simpa using this.symm
     have R:bA P fn.ntmps w.heap.size ρ (cj args) h { tmps:=args'++replicate (fn.ntmps-args'.size) Go.undef,defers:=[] } w:=⟨by simp;omega,le_refl _,Iq hv fn.ntmps,H⟩
     refine wpIn_mono (r1 none (λ_=>rfl) _ ρ _ w R) ?_
     rintro e' a' w' ⟨rfl,ae,R',T⟩
     have key:LeavesInM Fence.wide 0 P fn a'.tmps (λe w'=>∃v' ae,e=.returned v'/\af ae (pack vs) v'/\av P ae h' w'/\Tr ρ h w ae h' w') a'.defers .returning w':=by
      refine B0 R'.defers R'.heap T ?_
      intro ez yI kz
      have iy:bA P fn.ntmps 0 ae f' h' { a' with defers:=[] } ez:=⟨R'.size,Nat.zero_le _,R'.tmp,yI⟩
      obtain ⟨v',q1,q2⟩:=NM iy h2 Kd
      exact ⟨v',q1,v',ae,rfl,q2,yI,kz⟩
     rcases he with rfl | rfl
     ·exact key
     ·exact key
   ·cases hc
  ·cases hc
 ·cases hc
theorem BA {F:FuncId} {args:List Value} {h:ad} {v:Value} (hi:h9 P F args h λu _=>u=v) {ρ:ai} {args':Array Value} {w:World} (hv:aC ρ args args'.toList) (H:av P ρ h w)
  (dW:∀i,¬aH h i):Calls P F args' w λe w'=>(∃v' ae,e=.returned v'/\af ae v v')/\RowKit.Below w.heap.size w w':=by
 obtain ⟨u,h',hc,rfl⟩:=hi
 refine (hc ρ args' w hv H).mono ?_
 rintro e w' ⟨v',ae,rfl,h1,_,T⟩
 exact ⟨⟨v',ae,rfl,h1⟩,⟨T.os,T.tape,T.output,T.cu,λk hk=>T.cq k hk λj s _ _ hm=>dW j hm⟩⟩
end
end
section
abbrev VK:=Value->ad->Prop
abbrev LQ:=List Value->ad->Prop
abbrev gm (a n:Nat):eD:=⟨some a,.p (.mv (.tmp n))⟩
abbrev gd (a n m:Nat):dE:=⟨some a,.p (.mv (.tmp n)),m⟩
abbrev ci (n:Int):Operand:=.const (.int .i64 n)
inductive OP (o:Option Value) (K:Value->Prop):Prop | mk:bH o K->OP o K
inductive OH (o:Option (Value×ad)) (K:Value->ad->Prop):Prop | mk:fx o K->OH o K
inductive bd (c:Value) (a b:Prop):Prop | mk:jj c a b->bd c a b
inductive c8 (v:Value) (b:Bool) (A B:Prop):Prop | mk:dN v b A B->c8 v b A B
inductive aF (Q:(Nat->Value)->ad->Prop) (ls:List Nat) (vs:List Value) (h:ad):Prop | mk:qZ Q ls vs h->aF Q ls vs h
inductive cE (init:List Value) (h:ad) (Q:(List Value->ad->Prop)->List Value->ad->Prop):Prop | mk:pG init h Q->cE init h Q
inductive az (P:Program) (F:FuncId) (args:List Value) (h:ad) (K:Value->ad->Prop):Prop | mk:h9 P F args h K->az P F args h K
inductive jK (P:Program) (x:Value) (args:List Value) (h:ad) (K:Value->ad->Prop):Prop | mk:ji P x args h K->jK P x args h K
inductive qD (P:Program) (g:Value) (ls:List Nat) (vs:List Value) (c:od) (h:ad) (K:ad->Prop):Prop | mk:kZ P g ls vs c h K->qD P g ls vs c h K
theorem FV:qD=kZ:=funext λ_=>funext λ_=>funext λ_=>funext λ_=>funext λ_=>funext λ_=>funext λ_=>propext ⟨λ⟨h⟩=>h,.mk⟩
theorem oh:OP=bH:=funext λ_=>funext λ_=>propext ⟨λ⟨h⟩=>h,.mk⟩
theorem y7:OH=fx:=funext λ_=>funext λ_=>propext ⟨λ⟨h⟩=>h,.mk⟩
theorem EO:bd=jj:=funext λ_=>funext λ_=>funext λ_=>propext ⟨λ⟨h⟩=>h,.mk⟩
theorem yF:c8=dN:=funext λ_=>funext λ_=>funext λ_=>funext λ_=>propext ⟨λ⟨h⟩=>h,.mk⟩
theorem tj:aF=qZ:=funext λ_=>funext λ_=>funext λ_=>funext λ_=>propext ⟨λ⟨h⟩=>h,.mk⟩
theorem FT:cE=pG:=funext λ_=>funext λ_=>funext λ_=>propext ⟨λ⟨h⟩=>h,.mk⟩
theorem iu:az=h9:=funext λ_=>funext λ_=>funext λ_=>funext λ_=>funext λ_=>propext ⟨λ⟨h⟩=>h,.mk⟩
theorem yB:jK=ji:=funext λ_=>funext λ_=>funext λ_=>funext λ_=>funext λ_=>propext ⟨λ⟨h⟩=>h,.mk⟩
theorem EN (Q:(Nat->Value)->ad->Prop) (ls:List Nat) (vs:List Value) (h:ad):aF Q ls vs h=Q (ey ls vs) h:=by
 rw [tj]
 rfl
theorem aI {Q:(Nat->Value)->ad->Prop} {ls:List Nat} {vs:List Value} {h:ad} {A:Prop} (e:Q (ey ls vs) h=A):aF Q ls vs h=A:=(EN _ _ _ _).trans e
def sC (o:gE) (g:Operand->Value) (k:Value->Prop):Prop:=
 match o with
 | .mv x=>k (g x)
 | .r6 n=>k (.int .i64 n)
 | .fn f a b=>k (.func (.func f) (a.map g).toArray (b.map g).toArray)
 | o=>OP (cP o g) k
theorem DK (o:gE) (g:Operand->Value) (k:Value->Prop):sC o g k=bH (cP o g) k:=by
 unfold sC
 split
 ·rfl
 ·rfl
 ·rfl
 ·rw [oh]
def sU (P:Program) (o:cL) (f:Nat->Value) (h:ad) (K:Value->ad->Prop):Prop:=
 match o with
 | .p o=>sC o (ev f) λv=>K v h
 | .l o=>OP (bM o (ev f) h) λv=>K v h
 | .e o=>OH (bW o (ev f) h) K
 | .call g args=>az P g (args.map (ev f)) h K
 | .ej x args=>jK P (ev f x) (args.map (ev f)) h K
theorem NZ (P:Program) (o:cL) (f:Nat->Value) (h:ad) (K:Value->ad->Prop):sU P o f h K=aT P o f h K:=by
 cases o <;> simp only [sU,aT,DK,oh,y7,iu,yB]
def rk (P:Program) (l:List eD) (K:(Nat->Value)->ad->Prop):(Nat->Value)->ad->Prop:=
 List.rec (motive:=λ_=>(Nat->Value)->ad->Prop) (λf h=>K f h) (λo _ ih f h=>sU P o.op f h λv h'=>ih (ba f o.dst v) h') l
theorem IB (P:Program) (l:List eD) (K:(Nat->Value)->ad->Prop):∀(f:Nat->Value) (h:ad),rk P l K f h=kJ P l K f h:=by
 induction l with
 | nil=>intro f h;rfl
 | cons o os ih=>
  intro f h
  show sU P o.op f h (λv h'=>rk P os K (ba f o.dst v) h')=_
  rw [NZ,kJ]
  congr 1
  funext v h'
  exact ih _ _
def wU (P:Program) (g:Option (Nat×Bool)) (l:List eD) (K:(Nat->Value)->ad->Prop) (f:Nat->Value) (h:ad):Prop:=
 match g with
 | none=>rk P l K f h
 | some (s,b)=>c8 (f s) b (rk P l K f h) (K (p7 l f) h)
theorem Lz (P:Program) (g:Option (Nat×Bool)) (l:List eD) (K:(Nat->Value)->ad->Prop) (f:Nat->Value) (h:ad):wU P g l K f h=ki P g l K f h:=by
 unfold wU ki
 split <;> simp only [IB,yF]
abbrev yD:=List (Nat×ad)->br->Value->ad->Prop
def q7 (P:Program) (io:cL) (pre j:Nat) (ah:List (Nat×ad)) (ag:br) (f:Nat->Value) (h:ad) (next:yD):Prop:=
 match io with
 | .p po=>sC po (ev f) λv=>next ah ag v h
 | .l lo=>OP (bM lo (ev f) h) λv=>kB pre lo f v ah/\next ah (ag++[(j,lo,f,v)]) v h
 | .e (.fl a)=>OH (bW (.fl a) (ev f) h) λv h'=>OP (fE h' v) λu=>ek pre h' ag/\next (ah++[(j,h)]) (ag++[(j,.obj (.const v),f,u)]) v h'
 | .e eo=>OH (bW eo (ev f) h) λv h'=>ek pre h' ag/\next (ah++[(j,h)]) ag v h'
 | .call g args=>az P g (args.map (ev f)) h λv h'=>ek pre h' ag/\next (ah++[(j,h)]) ag v h'
 | .ej x args=>jK P (ev f x) (args.map (ev f)) h λv h'=>ek pre h' ag/\next (ah++[(j,h)]) ag v h'
theorem Hp (P:Program) (io:cL) (pre j:Nat) (ah:List (Nat×ad)) (ag:br) (f:Nat->Value) (h:ad) (next:yD):
  q7 P io pre j ah ag f h next=dU P io pre j ah ag f h next:=by
 cases io with
 | e eo=>cases eo <;> simp only [q7,dU,oh,y7]
 | _=>simp only [q7,dU,DK,oh,iu,yB]
abbrev yC:=List (Nat×ad)->br->(Nat->Value)->ad->Prop
def oQ (P:Program):List dE->Nat->List (Nat×ad)->br->yC->(Nat->Value)->ad->Prop
 | [],_,ah,ag,K,f,h=>K ah ag f h
 | o::os,j,ah,ag,K,f,h=>q7 P o.op o.pre j ah ag f h λah ag v h'=>oQ P os (j+1) ah ag K (ba f o.dst v) h'
theorem u5 (P:Program):∀(l:List dE) (j:Nat) (ah:List (Nat×ad)) (ag:br) (K:yC) (f:Nat->Value) (h:ad),oQ P l j ah ag K f h=fM P l j ah ag K f h
 | [],_,_,_,_,_,_=>rfl
 | o::os,j,ah,ag,K,f,h=>by
  rw [oQ,fM,Hp]
  congr 1
  funext ah ag v h'
  exact u5 P os _ _ _ _ _ _
def jU (P:Program):List (Option (Nat×Bool)×List dE)->Nat->List (Nat×ad)->br->((Nat->Value)->ad->Prop)->(Nat->Value)->ad->Prop
 | [],_,_,_,K,f,h=>K f h
 | (none,l)::gs,j,ah,ag,K,f,h=>oQ P l j ah ag (λah ag f h=>jU P gs (j+l.length) ah ag K f h) f h
 | (some (s,b),l)::gs,j,ah,ag,K,f,h=>
  c8 (f s) b (oQ P l j ah ag (λah ag f h=>jU P gs (j+l.length) ah ag K f h) f h)
   (jW l j ah ag (λah ag f h=>jU P gs (j+l.length) ah ag K f h) f h)
theorem u4 (P:Program):∀(gs:List (Option (Nat×Bool)×List dE)) (j:Nat) (ah:List (Nat×ad)) (ag:br) (K:(Nat->Value)->ad->Prop) (f:Nat->Value) (h:ad),
  jU P gs j ah ag K f h=fL P gs j ah ag K f h
 | [],_,_,_,_,_,_=>rfl
 | (none,l)::gs,j,ah,ag,K,f,h=>by
  have e:(λah ag f h=>jU P gs (j+l.length) ah ag K f h)=λah ag f h=>fL P gs (j+l.length) ah ag K f h:=by
   funext a b c d;exact u4 P gs _ _ _ _ _ _
  rw [jU,fL,u5,e]
 | (some (s,b),l)::gs,j,ah,ag,K,f,h=>by
  have e:(λah ag f h=>jU P gs (j+l.length) ah ag K f h)=λah ag f h=>fL P gs (j+l.length) ah ag K f h:=by
   funext a b c d;exact u4 P gs _ _ _ _ _ _
  rw [jU,fL,u5,e,yF]
noncomputable def ar (P:Program) (c:b9):ax->(Nat->Value)->ad->Prop:=
 b9.rec (motive:=λ_=>ax->(Nat->Value)->ad->Prop)
  (λK f h=>K .normal f h)
  (λl K f h=>jU P l 0 [] [] (K .normal) f h)
  (λg l K f h=>wU P g l (K .normal) f h)
  (λ_ _ ia ib K f h=>ia (aJ (ib K) K) f h)
  (λls _ ic K f h=>aF (ic K) ls (ls.map f) h)
  (λc _ _ ia ib K f h=>bd (ev f c) (ia K f h) (ib K f h))
  (λid _ ic K f h=>ic (bO id K) f h)
  (λks ls _ ic K f h=>cE (ls.map f) h λL xs hx=>aF (ic (aJ (λf' aS=>ks.map f'=ks.map f/\L (ls.map f') aS) K)) (ks++ls) (ks.map f++xs) hx)
  (λid K f h=>K (.exit id) f h)
  (λK f h=>K .ret f h)
  (λg ls c K f h=>qD P (ev f g) ls (ls.map f) c h (K .normal f)) c
theorem KD (P:Program) (c:b9):ar P c=cJ P c:=by
 induction c with
 | skip=>rfl
 | uE l=>funext K f h;exact u4 P l 0 [] [] (K .normal) f h
 | ops g l=>funext K f h;exact Lz P g l (K .normal) f h
 | seq a b kT mo=>
  funext K f h
  show ar P a (aJ (ar P b K) K) f h=cJ P a (aJ (cJ P b K) K) f h
  rw [kT,mo]
 | cut ls c ih=>
  funext K f h
  show aF (ar P c K) ls (ls.map f) h=qZ (cJ P c K) ls (ls.map f) h
  rw [ih,tj]
 | cond c a b kT mo=>
  funext K f h
  show bd (ev f c) (ar P a K f h) (ar P b K f h)=jj (ev f c) (cJ P a K f h) (cJ P b K f h)
  rw [kT,mo,EO]
 | block id c ih=>
  funext K f h
  show ar P c (bO id K) f h=cJ P c (bO id K) f h
  rw [ih]
 | loop ks ls c ih=>
  funext K f h
  show cE (ls.map f) h (λL xs hx=>aF (ar P c (aJ (λf' aS=>ks.map f'=ks.map f/\L (ls.map f') aS) K)) (ks++ls) (ks.map f++xs) hx)=
   pG (ls.map f) h (λL xs hx=>cJ P c (aJ (λf' aS=>ks.map f'=ks.map f/\L (ls.map f') aS) K) (ey (ks++ls) (ks.map f++xs)) hx)
  rw [ih,FT,tj]
  rfl
 | exit id=>rfl
 | ret=>rfl
 | range g ls c=>
  funext K f h
  show qD P (ev f g) ls (ls.map f) c h (K .normal f)=kZ P (ev f g) ls (ls.map f) c h (K .normal f)
  rw [FV]
def nV:List ee->(Nat->Value)->ad->(List Value->Prop)->Prop
 | [],_,_,k=>k []
 | .tmp t::rs,f,h,k=>nV rs f h λvs=>k (f t::vs)
 | .cell agg n a::rs,f,h,k=>OP (aw agg n h (f a)) λv=>nV rs f h λvs=>k (v::vs)
theorem xx:∀(rs:List ee) (f:Nat->Value) (h:ad) (k:List Value->Prop),nV rs f h k=kp rs f h k
 | [],_,_,_=>rfl
 | .tmp _::rs,f,h,k=>xx rs f h _
 | .cell agg n a::rs,f,h,k=>by
  rw [nV,kp,oh]
  congr 1
  funext v
  exact xx rs f h _
def bD (rs:List ee) (K:Value->ad->Prop):ax
 | .normal,f,h=>nV rs f h λvs=>K (pack vs) h
 | .ret,f,h=>nV rs f h λvs=>K (pack vs) h
 | _,_,_=>False
theorem F9 (rs:List ee) (K:Value->ad->Prop):bD rs K=zl rs K:=by
 funext e f h
 cases e <;> first | rfl | exact xx rs f h _
theorem dn {P:Program} {F:FuncId} {N:Nat} {ic:b9} {rs:List ee} {hs:Hints} {h:ad} (hc:cH P F hs=some (N,ic,rs)) {args:List Value} (ha:args.length<=N)
  {K:Value->ad->Prop} (hi:ar P ic (bD rs K) (cj args) h):az P F args h K:=
 .mk (BB hc ha (by rw [<-KD,<-F9];exact hi))
end
section
section Ok
variable {A B : Prop} {K : Value -> Prop} {K2 : Value -> ad -> Prop} {v : Value} {h : ad}
@[simp] theorem aq : OP (some v) K ↔ K v := ⟨λ⟨h⟩ => h, λh => .mk h⟩
@[simp] theorem ca : OH (some (v, h)) K2 ↔ K2 v h := ⟨λ⟨h⟩ => h, λh => .mk h⟩
theorem og {o:Option (Value×ad)} (ho:o=some (v,h)) (hk:K2 v h):OH o K2:=by rw [ho];exact ca.2 hk
@[simp] theorem gC : bd (.bool true) A B ↔ A := ⟨λ⟨h⟩ => by simpa [jj] using h, λh => .mk (by simpa [jj] using h)⟩
@[simp] theorem fa : bd (.bool false) A B ↔ B := ⟨λ⟨h⟩ => by simpa [jj] using h, λh => .mk (by simpa [jj] using h)⟩
@[simp] theorem c9 {p : Prop} [Decidable p] : bd (.bool (decide p)) A B ↔ (p -> A) /\ (¬ p -> B) := by by_cases hp : p <;> simp [hp]
@[simp] theorem EP {p : Prop} [Decidable p] : bd (.bool (!decide p)) A B ↔ (¬ p -> A) /\ (p -> B) := by by_cases hp : p <;> simp [hp]
@[simp] theorem tk : c8 (.bool true) true A B ↔ A := ⟨λ⟨h⟩ => by simpa [dN] using h, λh => .mk (by simpa [dN] using h)⟩
@[simp] theorem yH : c8 (.bool true) false A B ↔ B := ⟨λ⟨h⟩ => by simpa [dN] using h, λh => .mk (by simpa [dN] using h)⟩
@[simp] theorem yG : c8 (.bool false) true A B ↔ B := ⟨λ⟨h⟩ => by simpa [dN] using h, λh => .mk (by simpa [dN] using h)⟩
@[simp] theorem gB : c8 (.bool false) false A B ↔ A := ⟨λ⟨h⟩ => by simpa [dN] using h, λh => .mk (by simpa [dN] using h)⟩
@[simp] theorem OV {b : Bool} : c8 undef b A B ↔ B := ⟨λ⟨h⟩ => by simpa [dN, undef] using h, λh => .mk (by simpa [dN, undef] using h)⟩
@[simp] theorem rW (a b : Value) : dH (.bool true) a b = some a := rfl
@[simp] theorem gi (a b : Value) : dH (.bool false) a b = some b := rfl
end Ok
abbrev I (n:Int):Value:=.int .i64 n
abbrev B (b:Bool):Value:=.bool b
abbrev cv (c:UInt8):Value:=.int .u8 (c.toNat:Int)
abbrev pt (i o:Nat):Value:=.pointer (some ⟨i,o,none⟩)
theorem wrap64 {n:Int} (h1: -9223372036854775808<=n) (h2:n<9223372036854775808):IntKind.wrap .i64 n=n:=by
 have e:IntKind.wrap .i64 n=if n%18446744073709551616>=9223372036854775808 then n%18446744073709551616-18446744073709551616 else n%18446744073709551616:=by
  simp [IntKind.wrap,IntKind.bits,IntKind.signed]
 rw [e]
 split <;> omega
theorem iZ {n:Int} (h1:0<=n) (h2:n<256):IntKind.wrap .u8 n=n:=by
 have e:IntKind.wrap .u8 n=n%256:=by
  simp [IntKind.wrap,IntKind.bits,IntKind.signed]
 rw [e]
 omega
section ints
variable (k : IntKind) (a b : Int)
@[simp] theorem dT : au .lss (.int k a) (.int k b) = some (.bool (decide (a < b))) := by simp [au, fP]
@[simp] theorem F6 : au .leq (.int k a) (.int k b) = some (.bool (decide (a <= b))) := by simp [au, fP]
@[simp] theorem qH : au .gtr (.int k a) (.int k b) = some (.bool (decide (b < a))) := by simp [au, fP]
@[simp] theorem jN : au .geq (.int k a) (.int k b) = some (.bool (decide (b <= a))) := by simp [au, fP]
@[simp] theorem mV : au .eql (.int k a) (.int k b) = some (.bool (decide (a = b))) := by simp [au, fP]
@[simp] theorem mW : au .neq (.int k a) (.int k b) = some (.bool (!decide (a = b))) := by simp [au, fP]
@[simp] theorem cM : au .add (.int k a) (.int k b) = some (.int k (k.wrap (a + b))) := by simp [au, fP]
@[simp] theorem F8 : au .sub (.int k a) (.int k b) = some (.int k (k.wrap (a - b))) := by simp [au, fP]
@[simp] theorem zj : au .mul (.int k a) (.int k b) = some (.int k (k.wrap (a * b))) := by simp [au, fP]
@[simp] theorem s8 (b : Bool) : gS .not (.bool b) = some (.bool !b) := rfl
@[simp] theorem PN : gS .neg (.int k a) = some (.int k (k.wrap (0 - a))) := rfl
@[simp] theorem lE (k' : IntKind) : iO k' (.int k a) = some (.int k' (k'.wrap a)) := rfl
@[simp] theorem O5 (n x y : Bool) : rT n (.bool x) (.bool y) = some (.bool (if n then !(x == y) else x == y)) := rfl
@[simp] theorem gI (i : Nat) (vs : Array Value) : dx i (.tuple vs) = vs[i]? := rfl
end ints
section strings
variable (a b : List UInt8)
theorem FW:(Value.string ⟨#[]⟩:Value)=S []:=rfl
@[simp] theorem zo (l : List UInt8) : bytes ⟨l.toArray⟩ = l := Gb l
@[simp] theorem kW : ft (S a) = some (I a.length) := by simp [ft, S]
@[simp] theorem zi : au .eql (S a) (S b) = some (.bool (decide (a = b))) := by simp [au, mn, S]
@[simp] theorem F7 : au .neq (S a) (S b) = some (.bool (!decide (a = b))) := by simp [au, mn, S]
theorem ua (h:a.length+b.length<=maxLen):au .add (S a) (S b)=some (S (a++b)):=by
 simp only [au,mn,S,zo,if_pos h]
theorem rX {i:Nat} (h:i<a.length) (k:IntKind):eX (S a) (.int k (i:Int))=some (cv a[i]):=by simp [eX,S,h]
theorem NV {n:Nat} (h:n<=a.length) (k:IntKind):gj (S a) none (some (.int k (n:Int)))=some (S (a.take n)):=by simp [gj,S,kS,mz,h]
theorem NX {n:Nat} (h:n<=a.length) (k:IntKind):gj (S a) (some (.int k (n:Int))) none=some (S (a.drop n)):=by simp [gj,S,kS,mz,h]
theorem NW {l n:Nat} (h0:l<=n) (h:n<=a.length) (k k':IntKind):gj (S a) (some (.int k (l:Int))) (some (.int k' (n:Int)))=some (S ((a.take n).drop l)):=by simp [gj,S,kS,mz,h,h0]
end strings
theorem uA (c d:UInt8):((c.toNat:Int)=(d.toNat:Int))↔c=d:=by
 rw [Int.natCast_inj]
 exact ⟨λh=>UInt8.toNat_inj.1 h,λh=>by rw [h]⟩
theorem Lh {σ:Type} {init:List Value} {h:ad} {Q:(List Value->ad->Prop)->List Value->ad->Prop} (enc:σ->List Value) (hp:σ->ad) (J:σ->Prop) (μ:σ->Nat) (s0:σ)
  (e0:enc s0=init) (eh:hp s0=h) (j0:J s0) (hr:∀s,J s->Q (λys hy=>∃s',enc s'=ys/\hp s'=hy/\J s'/\μ s'<μ s) (enc s) (hp s)):cE init h Q:=by
 refine .mk ?_
 have least:∀ys hy,(∃s,enc s=ys/\hp s=hy/\J s)->∃m,(∃s,enc s=ys/\hp s=hy/\J s/\μ s=m)/\∀s,enc s=ys->hp s=hy->J s->m<=μ s:=by
  rintro ys hy ⟨s,h1,h2,h3⟩
  have key:∀n,(∃s,enc s=ys/\hp s=hy/\J s/\μ s=n)->∃m,(∃s,enc s=ys/\hp s=hy/\J s/\μ s=m)/\∀s,enc s=ys->hp s=hy->J s->m<=μ s:=by
   intro n
   induction n using Nat.strongRecOn with
   | _ n ih=>
    intro hn
    by_cases hlt:∃s,enc s=ys/\hp s=hy/\J s/\μ s<n
    ·obtain ⟨s',a,b,c,d⟩:=hlt
     exact ih (μ s') d ⟨s',a,b,c,rfl⟩
    ·exact ⟨n,hn,λs' a b c=>le_of_not_lt λd=>hlt ⟨s',a,b,c,d⟩⟩
  exact key _ ⟨s,h1,h2,h3,rfl⟩
 classical
 refine ⟨λys hy=>∃s,enc s=ys/\hp s=hy/\J s,λys hy=>if hJ:∃s,enc s=ys/\hp s=hy/\J s then Classical.choose (least ys hy hJ) else 0,⟨s0,e0,eh,j0⟩,?_⟩
 rintro xs hx hJ
 have pn:=choose_spec (least xs hx hJ)
 simp only [dif_pos hJ]
 generalize Classical.choose (least xs hx hJ)=m at pn
 obtain ⟨⟨s,a,b,c,d⟩,_⟩:=pn
 have:=hr s c
 rw [a,b] at this
 have he:(λ(ys:List Value) (hy:ad)=>(∃s,enc s=ys/\hp s=hy/\J s)/\(if hJ:∃s,enc s=ys/\hp s=hy/\J s then Classical.choose (least ys hy hJ) else 0)<m)=
   λys hy=>∃s',enc s'=ys/\hp s'=hy/\J s'/\μ s'<μ s:=by
  funext ys hy
  apply propext
  constructor
  ·rintro ⟨nk,hlt⟩
   rw [dif_pos nk] at hlt
   obtain ⟨⟨s',a',b',c',d'⟩,_⟩:=choose_spec (least ys hy nk)
   exact ⟨s',a',b',c',by rw [d',d];exact hlt⟩
  ·rintro ⟨s',a',b',c',d'⟩
   refine ⟨⟨s',a',b',c'⟩,?_⟩
   rw [dif_pos ⟨s',a',b',c'⟩]
   have:=(choose_spec (least ys hy ⟨s',a',b',c'⟩)).2 s' a' b' c'
   omega
 rw [he]
 exact this
theorem eM {σ:Type} {init:List Value} {h:ad} {Q:(List Value->ad->Prop)->List Value->ad->Prop} (enc:σ->List Value) (hp:σ->ad) (J:σ->Prop) (μ:σ->Nat) (s0:σ)
  (e0:enc s0=init) (eh:hp s0=h) (j0:J s0) (hr:∀s,J s->∀L:List Value->ad->Prop,(∀s',J s'->μ s'<μ s->L (enc s') (hp s'))->Q L (enc s) (hp s)):cE init h Q:=
 Lh enc hp J μ s0 e0 eh j0 λs hs=>hr s hs _ λs' h1 h2=>⟨s',rfl,rfl,h1,h2⟩
def EX (h h':ad):Prop:=h.length<=h'.length/\∀i,i<h.length->h'[i]?=h[i]?
theorem EX.refl (h:ad):EX h h:=⟨le_refl _,λ_ _=>rfl⟩
theorem EX.trans {a b c:ad} (h:EX a b) (k:EX b c):EX a c:=⟨Nat.le_trans h.1 k.1,λi hi=>(k.2 i (Nat.lt_of_lt_of_le hi h.1)).trans (h.2 i hi)⟩
theorem EX.append (h g:ad):EX h (h++g):=⟨by simp,λi hi=>getElem?_append_left hi⟩
theorem EX.push {a h:ad} (k:EX a h) (g:ad):EX a (h++g):=k.trans (.append h g)
theorem EX.set {a h:ad} (k:EX a h) {i:Nat} (hi:a.length<=i) (o:ay):EX a (h.set i o):=⟨by simpa using k.1,λj hj=>by rw [getElem?_set_ne (by omega)];exact k.2 j hj⟩
theorem EX.get {a h:ad} (k:EX a h) {i:Nat} {o:ay} (hi:a[i]?=some o):h[i]?=some o:=by rw [k.2 i (bu hi).1];exact hi
theorem EX.cells {a h:ad} (k:EX a h) {i:Nat} {xs:List Value} (hi:aU a i=some xs):aU h i=some xs:=by
 unfold aU at hi⊢
 have hlt:i<a.length:=by
  apply byContradiction
  intro hc
  rw [List.getElem?_eq_none (le_of_not_lt hc)] at hi
  simp at hi
 rw [k.2 i hlt]
 exact hi
def bn:Value->Bool
 | .bool _ | .int .. | .string _ | .nilFunc | .nilIface=>true
 | .pointer none | .map none=>true
 | .slice none 0 0=>true
 | _=>false
theorem bn.rel {ρ ae:ai} {v v':Value} (h:bn v=true) (hv:af ρ v v'):af ae v v':=by
 unfold bn at h
 split at h
 ·cases hv;exact .bool _
 ·cases hv;exact .int _ _
 ·cases hv;exact .string _
 ·cases hv;exact .nilFunc
 ·cases hv;exact .nilIface
 ·cases hv;exact .nilPtr
 ·cases hv;exact .jA
 ·cases hv;exact .gV
 ·cases h
def Ren (V:Nat->Value):Prop:=∀(ρ ae:ai) (i j:Nat) (v':Value),ae j=ρ i->af ρ (V i) v'->af ae (V j) v'
theorem Ren.bn {v:Value} (h:bn v=true):Ren λ_=>v:=λ_ _ _ _ _ _ hv=>bn.rel h hv
theorem Ren.pt (o:Nat):Ren λi=>pt i o:=by
 intro ρ ae i j v' e hv
 cases hv with
 | ptr hr=>exact .ptr (by rw [e];exact hr)
theorem Ren.sl (e:TypeId) (o n:Nat):Ren λi=>sl e i o n:=by
 intro ρ ae i j v' he hv
 cases hv with
 | slice hr a b c d=>exact .slice (by rw [he];exact hr) a b c d
inductive mS:List (Nat->Value)->Prop
 | nil:mS []
 | cons {V:Nat->Value} {l:List (Nat->Value)}:Ren V->mS l->mS (V::l)
theorem mS.rel {l:List (Nat->Value)} (h:mS l) {ρ ae:ai} {i j:Nat} (e:ae j=ρ i):∀{ys:List Value},aC ρ (l.map (· i)) ys->aC ae (l.map (· j)) ys:=by
 induction h with
 | nil=>intro ys hv;cases hv;exact .nil
 | cons hV _ ih=>intro ys hv;cases hv with | cons a b=>exact .cons (hV _ _ _ _ _ e a) (ih b)
theorem Ren.tuple {l:List (Nat->Value)} (h:mS l):Ren λi=>.tuple (l.map (· i)).toArray:=by
 intro ρ ae i j v' e hv
 cases hv with
 | tuple hs hr=>
  rename_i xs'
  have:=h.rel e (aC.la hs hr)
  have:=af.jF this
  simpa using this
section gc
variable {P : Program} {F : FuncId} {args : List Value} {h : ad}
def iW:ay->Bool
 | .ro _ xs | .arr _ xs=>xs.all bn
 | .smap es=>es.all λp=>bn p.2
 | .dY _ es=>es.all λp=>bn p.2
 | .ct _ _ es=>es.all λp=>bn p.2.2
 | _=>false
theorem iW.rel {ρ ae:ai} {w:World} {r:RI} {o:ay} (hp:iW o=true) (h:eN ρ w r o):eN ae w r o:=by
 have cells:∀{c:Array Value} {sh:Nat} {xs:List Value},xs.all bn=true->b0 ρ c sh xs->b0 ae c sh xs:=by
  intro c sh xs hs hc j x hj
  obtain ⟨h1,y,hy,hr⟩:=hc j x hj
  rw [all_eq_true] at hs
  exact ⟨h1,y,hy,bn.rel (hs x (mem_of_getElem? hj)) hr⟩
 cases o with
 | ro e xs=>obtain ⟨h1,c,t,fr,h2,h3,h4⟩:=h;exact ⟨h1,c,t,fr,h2,h3,cells hp h4⟩
 | arr e xs=>obtain ⟨h1,h0,c,h2,h3,h4⟩:=h;exact ⟨h1,h0,c,h2,h3,cells hp h4⟩
 | smap es=>
  obtain ⟨ak,clock,h1,h2,h3⟩:=h
  refine ⟨ak,clock,h1,h2,λj k v hj=>?_⟩
  obtain ⟨en,e1,e2,e3⟩:=h3 j k v hj
  simp only [iW,all_eq_true] at hp
  exact ⟨en,e1,e2,bn.rel (hp (k,v) (mem_of_getElem? hj)) e3⟩
 | dY kd es=>
  obtain ⟨ak,clock,h1,h2,h3⟩:=h
  refine ⟨ak,clock,h1,h2,λj k v hj=>?_⟩
  obtain ⟨en,e1,e2,e3⟩:=h3 j k v hj
  simp only [iW,all_eq_true] at hp
  exact ⟨en,e1,e2,bn.rel (hp (k,v) (mem_of_getElem? hj)) e3⟩
 | ct g c es=>
  obtain ⟨h0,ak,h1,h2,h3⟩:=h
  refine ⟨h0,ak,h1,h2,λj b k v hj=>?_⟩
  obtain ⟨e0,en,e1,e2,jP,e3⟩:=h3 j b k v hj
  simp only [iW,all_eq_true] at hp
  exact ⟨e0,en,e1,e2,jP,bn.rel (hp (b,k,v) (mem_of_getElem? hj)) e3⟩
 | iter m s n l=>cases hp
 | loop c ls vs=>cases hp
 | dead=>cases hp
theorem As {K:Value->ad->Prop} {V:Nat->Value} {o:ay} (hV:Ren V) (ho:iW o=true)
  (hc:az P F args h λu h'=>EX h h'/\∃i,h.length<=i/\h'[i]?=some o/\u=V i) (hk:K (V h.length) (h++[o])):az P F args h K:=by
 rw [iu] at hc⊢
 obtain ⟨u,h',hc,hex,i,hi,aA,rfl⟩:=hc
 refine ⟨_,_,?_,hk⟩
 intro ρ args' w hv H
 refine (hc ρ args' w hv H).mono ?_
 rintro e w' ⟨v',ae,rfl,gP,H',T⟩
 let fA:ai:=λk=>if k=h.length then ae i else ρ k
 have r1:fA h.length=ae i:=by simp [fA]
 have r2:∀k,k≠h.length->fA k=ρ k:=λk hk=>by simp [fA,hk]
 have r3:∀k r,ρ k=some r->ae k=some r/\k<h.length/\h'[k]?=h[k]?:=λk r hr=>⟨T.ext k r hr,H.lt hr,hex.2 k (H.lt hr)⟩
 have old:∀k,k<h.length->(h++[o])[k]?=h[k]?:=λk hk=>getElem?_append_left hk
 have new:(h++[o])[h.length]?=some o:=by simp
 have hle:ρ.le fA:=by
  intro k r hr
  rw [r2 k (by have:=H.lt hr;omega)]
  exact hr
 have mt:∀k,k<h.length->(aH (h++[o]) k↔aH h' k):=λk hk=>by unfold aH;rw [old k hk,hex.2 k hk]
 have mu:∀k,k<h.length->(bC (h++[o]) k↔bC h' k):=λk hk=>by unfold bC;rw [old k hk,hex.2 k hk]
 have wL:aH (h++[o]) h.length↔aH h' i:=by unfold aH;rw [new,aA]
 have wH:bC (h++[o]) h.length↔bC h' i:=by unfold bC;rw [new,aA]
 refine ⟨v',fA,rfl,hV ae fA i h.length v' r1 gP,⟨?_,?_,?_⟩,?_⟩
 ·intro k r hr
  by_cases e:k=h.length
  ·subst e
   rw [r1] at hr
   obtain ⟨o',bm,hrel⟩:=H'.obj i r hr
   rw [aA] at bm
   cases bm
   exact ⟨o,new,iW.rel ho hrel⟩
  ·rw [r2 k e] at hr
   obtain ⟨q1,q2,q3⟩:=r3 k r hr
   obtain ⟨o',bm,hrel⟩:=H.obj k r hr
   obtain ⟨o2,kQ,ph⟩:=H'.obj k r q1
   rw [q3,bm] at kQ
   cases kQ
   exact ⟨o',by rw [old k q2];exact bm,(hrel.down T.ext ph).mono hle rfl⟩
 ·intro a b r s ha hb iL hm hl
  by_cases ea:a=h.length <;> by_cases eb:b=h.length
  ·omega
  ·subst ea
   rw [r1] at ha
   rw [r2 b eb] at hb
   obtain ⟨q1,q2,q3⟩:=r3 b s hb
   have:=H'.inj i b r s ha q1 iL (wL.1 hm) ((mu b q2).1 hl)
   omega
  ·subst eb
   rw [r1] at hb
   rw [r2 a ea] at ha
   obtain ⟨q1,q2,q3⟩:=r3 a r ha
   have:=H'.inj a i r s q1 hb iL ((mt a q2).1 hm) (wH.1 hl)
   omega
  ·rw [r2 a ea] at ha
   rw [r2 b eb] at hb
   obtain ⟨q1,q2,_⟩:=r3 a r ha
   obtain ⟨p1,p2,_⟩:=r3 b s hb
   exact H'.inj a b r s q1 p1 iL ((mt a q2).1 hm) ((mu b p2).1 hl)
 ·intro k r hr
  by_cases e:k=h.length
  ·subst e
   rw [r1] at hr
   exact H'.aL i r hr
  ·rw [r2 k e] at hr
   exact H.aL k r hr
 ·exact {
   ext:=hle
   len:=by simp
   cW:=λk r hr=>H.lt hr
   kinds:=λk hk hm=>by unfold aH at hm⊢;rw [old k hk] at hm;exact hm
   fresh:=by
    intro k r hr hn
    by_cases e:k=h.length
    ·subst e
     rw [r1] at hr
     have er:ρ i=none:=by
      cases hq:ρ i with
      | none=>rfl
      | some q=>exact absurd (H.lt hq) (by omega)
     exact ⟨le_refl _,(T.fresh i r hr er).2⟩
    ·rw [r2 k e] at hr
     rw [hr] at hn
     cases hn
   cu:=T.cu
   cq:=T.cq
   os:=T.os
   tape:=T.tape
   output:=T.output }
theorem oD {K:Value->ad->Prop} {v:Value} (hV:Ren λ_=>v) (hc:az P F args h λu h'=>u=v/\EX h h') (hk:K v h):az P F args h K:=by
 rw [iu] at hc⊢
 obtain ⟨u,h',hc,rfl,hex⟩:=hc
 refine ⟨_,_,?_,hk⟩
 intro ρ args' w hv H
 refine (hc ρ args' w hv H).mono ?_
 rintro e w' ⟨v',ae,rfl,gP,H',T⟩
 have r3:∀k r,ρ k=some r->ae k=some r/\k<h.length/\h'[k]?=h[k]?:=λk r hr=>⟨T.ext k r hr,H.lt hr,hex.2 k (H.lt hr)⟩
 have mt:∀k,k<h.length->(aH h k↔aH h' k):=λk hk=>by unfold aH;rw [hex.2 k hk]
 have mu:∀k,k<h.length->(bC h k↔bC h' k):=λk hk=>by unfold bC;rw [hex.2 k hk]
 have gN:ρ h.length=none:=H.none
 have rI:∃i,ρ i=ae h'.length:=⟨h.length,by rw [gN,H'.none]⟩
 refine ⟨v',ρ,rfl,hV ae ρ h'.length h.length v' (by rw [gN,H'.none]) gP,⟨?_,?_,H.aL⟩,?_⟩
 ·intro k r hr
  obtain ⟨q1,q2,q3⟩:=r3 k r hr
  obtain ⟨o',bm,hrel⟩:=H.obj k r hr
  obtain ⟨o2,kQ,ph⟩:=H'.obj k r q1
  rw [q3,bm] at kQ
  cases kQ
  exact ⟨o',bm,hrel.down T.ext ph⟩
 ·intro a b r s ha hb iL hm hl
  obtain ⟨q1,q2,_⟩:=r3 a r ha
  obtain ⟨p1,p2,_⟩:=r3 b s hb
  exact H'.inj a b r s q1 p1 iL ((mt a q2).1 hm) ((mu b p2).1 hl)
 ·exact {
   ext:=.refl _
   len:=le_refl _
   cW:=λk r hr=>H.lt hr
   kinds:=λ_ _ h=>h
   fresh:=λk r h1 h2=>by rw [h1] at h2;cases h2
   cu:=T.cu
   cq:=T.cq
   os:=T.os
   tape:=T.tape
   output:=T.output }
theorem G8 {K:Value->ad->Prop} {v:Value} {h':ad} (hV:Ren λ_=>v) (hc:mQ P F args [] v h') (ha:args.all bn=true) (hk:K v h):az P F args h K:=by
 rw [iu]
 refine ⟨v,h,?_,hk⟩
 intro ρ args' w hv H
 have Ka:∀{xs ys:List Value},xs.all bn=true->aC ρ xs ys->aC (λ_=>none) xs ys:=by
  intro xs ys hs hr
  induction hr with
  | nil=>exact .nil
  | cons a _ ih=>simp only [List.all_cons,and_eq_true] at hs;exact .cons (bn.rel hs.1 a) (ih hs.2)
 have H0:av P (λ_=>none) [] w:=⟨λi r hi=>(by cases hi),λi j r s hi=>(by cases hi),λi r hi=>(by cases hi)⟩
 refine (hc _ args' w (Ka ha hv) H0).mono ?_
 rintro e w' ⟨v',ae,rfl,gP,H',T⟩
 have kV:∀b,b<w.heap.size->w'.heap[b]?=w.heap[b]?:=λb hb=>T.cq b hb λj s hj=>(by cases hj)
 refine ⟨v',ρ,rfl,hV ae ρ h'.length h.length v' (by rw [H.none,H'.none]) gP,⟨?_,H.inj,H.aL⟩,?_⟩
 ·intro k r hr
  obtain ⟨o,ho,hrel⟩:=H.obj k r hr
  refine ⟨o,ho,?_⟩
  by_cases hd:o=.dead
  ·subst hd;trivial
  ·exact hrel.mono (.refl _) (kV _ (pN H hr ⟨o,ho,hd⟩))
 ·exact {
   ext:=.refl _
   len:=le_refl _
   cW:=λk r hr=>H.lt hr
   kinds:=λ_ _ h=>h
   fresh:=λk r h1 h2=>by rw [h1] at h2;cases h2
   cu:=T.cu
   cq:=λb hb _=>kV b hb
   os:=T.os
   tape:=T.tape
   output:=T.output }
end gc
end
section
open Go.ChangeShapes Go.WideShapes Go.ChangeAt Go.RowKit
def gp (h:ad):Prop:=∀i,¬aH h i
section
variable {P : Program} {W : World} {ρ : ai} {h : ad}
theorem av.start (P:Program) (W:World):av P (λ_=>Option.none) [] W:=⟨λi r hi=>(by cases hi),λi j r s hi=>(by cases hi),λi r hi=>(by cases hi)⟩
theorem gp.start:gp []:=λi hm=>by unfold aH at hm;simp at hm
theorem av.zd (H:av P ρ h W) (hr:gp h) {r:RI} (he:r.aL=P.cellsOf r.elem) {o:ay} (aP:o=.dead∨∃e xs,o=.ro e xs) (ho:eN (ρ.add h.length r) W r o):
  av P (ρ.add h.length r) (h++[o]) W/\gp (h++[o])/\ρ.le (ρ.add h.length r):=by
 have dW:gp (h++[o]):=by
  intro i hm
  unfold aH at hm
  by_cases hi:i<h.length
  ·rw [getElem?_append_left hi] at hm
   exact hr i hm
  ·by_cases he:i=h.length
   ·subst he
    have e:(h++[o])[h.length]?=some o:=by simp
    rw [e] at hm
    rcases aP with rfl | ⟨_,_,rfl⟩ <;> rcases hm with ⟨_,_,h1⟩ | ⟨_,h1⟩ | ⟨_,_,_,h1⟩ | ⟨_,_,h1⟩ | ⟨_,_,_,h1⟩ | ⟨_,_,_,_,h1⟩ <;> cases h1
   ·rw [List.getElem?_eq_none (by simp;omega)] at hm
    rcases hm with ⟨_,_,h1⟩ | ⟨_,h1⟩ | ⟨_,_,_,h1⟩ | ⟨_,_,h1⟩ | ⟨_,_,_,h1⟩ | ⟨_,_,_,_,h1⟩ <;> cases h1
 refine ⟨⟨?_,λi j r s _ _ _ hm=>absurd hm (dW i),?_⟩,dW,ai.kg H.none⟩
 ·intro i s hi
  unfold ai.add at hi
  split at hi
  ·rename_i e
   subst e
   cases hi
   exact ⟨o,by simp,ho⟩
  ·obtain ⟨o',h1,h2⟩:=H.obj i s hi
   exact ⟨o',by rw [getElem?_append_left (H.lt hi)];exact h1,h2.mono (ai.kg H.none) rfl⟩
 ·intro i s hi
  unfold ai.add at hi
  split at hi
  ·cases hi;exact he
  ·exact H.aL i s hi
theorem bn.self {v:Value} (hs:bn v=true) (ρ:ai):af ρ v v:=by
 unfold bn at hs
 split at hs
 ·exact .bool _
 ·exact .int _ _
 ·exact .string _
 ·exact .nilFunc
 ·exact .nilIface
 ·exact .nilPtr
 ·exact .jA
 ·exact .gV
 ·cases hs
theorem bn.cell {v:Value} (hs:bn v=true):cz v=true:=by
 unfold bn at hs
 split at hs <;> first | rfl | cases hs
variable {H : Type} {enc : TypeId × Value -> H}
theorem addr_eq {a:Addr} (hs:a.spot=none) (n:Nat):a.add n=⟨a.block,a.off+n,none⟩:=by
 obtain ⟨b,o,s⟩:=a
 simp only at hs
 subst hs
 unfold Addr.add
 split
 ·rename_i h;subst h;rfl
 ·rfl
theorem HZ {t e:TypeId} (ht:P.underlying t=some (.slice e)) (mc:P.cellsOf e≠0)
  (flat:∀n cs y,DataW.trod enc P W 0 (λ_=>true) true n e cs=some y->cs.length=P.cellsOf e/\∀x∈cs,bn x=true)
  {fuel:Nat} {v:Value} {x:DataW H×List MemPlace} (hd:DataW.trod enc P W 0 (λ_=>true) true fuel t [v]=some x) (aj:∀(a:Addr) (len cap:Nat),v=.slice (some a) len cap->a.spot=none) (HR:av P ρ h W) (dW:gp h):
  ∃(ae:ai) (g:ad) (v':Value) (n:Nat) (xs:List Value),ρ.le ae/\av P ae (h++g) W/\gp (h++g)/\af ae v' v/\cz v'=true/\
   ((v'=.slice none 0 0/\n=0)∨∃i,v'=sl e i 0 n/\(n=0∨aU (h++g) i=some xs))/\xs.length=n*P.cellsOf e/\(∀y∈xs,bn y=true)/\
   ∀i,i<n->∃m y,DataW.trod enc P W 0 (λ_=>true) true m e ((xs.drop (i*P.cellsOf e)).take (P.cellsOf e))=some y:=by
 rcases DataW.trod_slice ht hd with ⟨h1,_⟩ | ⟨a,len,cap,O4,rest,n,_,h1,_,hb,hl,hm,hlen,I2,hsp,_⟩
 ·obtain rfl:v=.slice none 0 0:=by simpa using h1
  exact ⟨ρ,[],.slice none 0 0,0,[],.refl _,by simpa using HR,by simpa using dW,.gV,rfl,.inl ⟨rfl,rfl⟩,by simp,by simp,λi hi=>by omega⟩
 ·obtain rfl:v=.slice (some a) len cap:=by simpa using h1
  have nD:a.spot=none:=aj a len cap rfl
  obtain ⟨hrl,hr⟩:=hsp rfl
  -- every O3 cells PD there
  have each:∀i,i<cap->∃cs y,W.cells? 0 (a.add (i*P.cellsOf e)) (P.cellsOf e)=some cs/\DataW.trod enc P W 0 (λ_=>true) true n e cs=some y:=by
   intro i hi
   have fh:∃y,(W.cells? 0 (a.add (i*P.cellsOf e)) (P.cellsOf e)).bind (DataW.trod enc P W 0 (λ_=>true) true n e)=some y:=by
    by_cases fD:i<len
    ·rw [I2 i fD,getElem?_eq_getElem (by omega)]
     exact ⟨_,rfl⟩
    ·have:=hr (i-len) (by omega)
     rw [show len+(i-len)=i by omega] at this
     rw [this,getElem?_eq_getElem (by omega)]
     exact ⟨_,rfl⟩
   obtain ⟨y,hy⟩:=fh
   rw [Option.bind_eq_some_iff] at hy
   obtain ⟨cs,h1,h2⟩:=hy
   exact ⟨cs,y,h1,h2⟩
  by_cases ru:cap=0
  ·subst ru
   obtain rfl:len=0:=by omega
   obtain ⟨H',vG,hle⟩:=HR.zd dW (r:=⟨a.block,a.off,e,P.cellsOf e,a.off⟩) rfl (.inl rfl) trivial
   refine ⟨_,[.dead],sl e h.length 0 0,0,[],hle,H',vG,?_,rfl,.inr ⟨_,rfl,.inl rfl⟩,by simp,by simp,λi hi=>by omega⟩
   obtain ⟨ab,ao,kA⟩:=a
   simp only at nD
   subst nD
   exact af.slice (ρ:=ρ.add h.length ⟨ab,ao,e,P.cellsOf e,ao⟩) (i:=h.length) (o:=0) (n:=0) (o':=ao) (c':=0) (r:=⟨ab,ao,e,P.cellsOf e,ao⟩) (by simp [ai.add]) (.inl rfl) (le_refl _) (by unfold maxLen;omega) (by simp)
  ·have nv:0<P.cellsOf e:=by omega
   -- the block
   have IP:∃c tt fr,W.heap[a.block]?=some (.cells c tt fr):=by
    obtain ⟨cs,y,h1,h2⟩:=each 0 (by omega)
    obtain ⟨_,g2,g3⟩:=World.cells?_some h1
    have:=g3 0 nv
    rw [Nat.zero_mul,addr_eq nD 0,addr_eq rfl 0,getElem?_eq_getElem (by omega)] at this
    unfold World.cell? at this
    split at this
    ·rename_i c tt fr hh;exact ⟨c,tt,fr,hh⟩
    ·cases this
   obtain ⟨c,tt,fr,nu⟩:=IP
   have get:∀i cs,W.cells? 0 (a.add (i*P.cellsOf e)) (P.cellsOf e)=some cs->∀j,j<P.cellsOf e->c[a.off+(i*P.cellsOf e+j)]?=cs[j]?:=by
    intro i cs h1 j hj
    obtain ⟨_,g2,g3⟩:=World.cells?_some h1
    have:=g3 j hj
    rw [addr_eq nD,addr_eq rfl] at this
    simp only [World.cell?,nu] at this
    simpa [Nat.add_assoc] using this
   have here:∀j,j<cap*P.cellsOf e->∃y,c[a.off+j]?=some y/\bn y=true:=by
    intro j hj
    have hi:j / P.cellsOf e<cap:=(Nat.div_lt_iff_lt_mul nv).2 hj
    obtain ⟨cs,y,h1,h2⟩:=each _ hi
    obtain ⟨f1,f2⟩:=flat n cs y h2
    have Jq:j%P.cellsOf e<P.cellsOf e:=Nat.mod_lt _ nv
    have:=get _ cs h1 (j%P.cellsOf e) Jq
    rw [show j / P.cellsOf e*P.cellsOf e+j%P.cellsOf e=j by rw [Nat.mul_comm];exact Nat.div_add_mod j _] at this
    rw [this,getElem?_eq_getElem (by omega)]
    exact ⟨_,rfl,f2 _ (List.getElem_mem _)⟩
   let xs:=(List.range (len*P.cellsOf e)).map λj=>c.getD (a.off+j) Go.undef
   have rP:xs.length=len*P.cellsOf e:=by simp [xs]
   have Pp:len*P.cellsOf e<=cap*P.cellsOf e:=Nat.mul_le_mul_right _ hl
   have vK:∀j,j<len*P.cellsOf e->xs[j]?=c[a.off+j]?:=by
    intro j hj
    obtain ⟨y,h1,_⟩:=here j (by omega)
    simp [xs,hj,h1]
   have hxs:∀y∈xs,bn y=true:=by
    intro y hy
    obtain ⟨j,hj⟩:=List.getElem?_of_mem hy
    have hlt:j<len*P.cellsOf e:=by have:=(bu hj).1;omega
    obtain ⟨z,h1,h2⟩:=here j (by omega)
    rw [vK j hlt,h1] at hj
    cases hj
    exact h2
   have JY:a.off+cap*P.cellsOf e<=c.size:=by
    have Pt:0<cap*P.cellsOf e:=Nat.mul_pos (by omega) nv
    obtain ⟨y,h1,_⟩:=here (cap*P.cellsOf e-1) (by omega)
    have:=(Array.getElem?_eq_some_iff.1 h1).1
    omega
   obtain ⟨H',vG,hle⟩:=HR.zd dW (r:=⟨a.block,a.off,e,P.cellsOf e,c.size⟩) rfl (.inr ⟨e,xs,rfl⟩) ⟨rfl,c,tt,fr,nu,rfl,λj y hj=>by
    have hlt:j<len*P.cellsOf e:=by have:=(bu hj).1;omega
    rw [vK j hlt] at hj
    obtain ⟨z,h1,h2⟩:=here j (by omega)
    rw [h1] at hj
    cases hj
    exact ⟨bn.cell h2,_,h1,bn.self h2 _⟩⟩
   refine ⟨_,[.ro e xs],sl e h.length 0 len,len,xs,hle,H',vG,?_,rfl,.inr ⟨_,rfl,.inr (by simp [aU])⟩,rP,hxs,?_⟩
   ·obtain ⟨ab,ao,kA⟩:=a
    simp only at nD
    subst nD
    exact af.slice (ρ:=ρ.add h.length ⟨ab,ao,e,P.cellsOf e,c.size⟩) (i:=h.length) (o:=0) (n:=len) (o':=ao) (c':=cap) (r:=⟨ab,ao,e,P.cellsOf e,c.size⟩) (by simp [ai.add]) (.inl rfl) hl hm JY
   ·intro i hi
    obtain ⟨cs,y,h1,h2⟩:=each i (by omega)
    refine ⟨n,y,?_⟩
    have bI:=(flat n cs y h2).1
    have Bn:(i+1)*P.cellsOf e<=len*P.cellsOf e:=Nat.mul_le_mul_right _ hi
    rw [Nat.add_mul,Nat.one_mul] at Bn
    have:(xs.drop (i*P.cellsOf e)).take (P.cellsOf e)=cs:=by
     apply List.ext_getElem?
     intro j
     rw [List.getElem?_take]
     by_cases hj:j<P.cellsOf e
     ·rw [if_pos hj,List.getElem?_drop,vK _ (by omega),get i cs h1 j hj]
     ·rw [if_neg hj,List.getElem?_eq_none (by omega)]
    rw [this]
    exact h2
theorem HY {t e:TypeId} (ht:P.underlying t=some (.slice e)) (mc:P.cellsOf e≠0)
  (flat:∀n cs y,DataW.trod enc P W 0 (λ_=>true) true n e cs=some y->cs.length=P.cellsOf e/\∀x∈cs,bn x=true)
  {fuel b:Nat} {v:Value} {x:DataW H×List MemPlace} (hd:DataW.trod enc P W 0 (λ_=>true) true fuel t [v]=some x) (aj:Cell.okWide P W .any b t v) (HR:av P ρ h W) (dW:gp h):
  ∃(ae:ai) (g:ad) (v':Value) (n:Nat) (xs:List Value),ρ.le ae/\av P ae (h++g) W/\gp (h++g)/\af ae v' v/\cz v'=true/\
   ((v'=.slice none 0 0/\n=0)∨∃i,v'=sl e i 0 n/\(n=0∨aU (h++g) i=some xs))/\xs.length=n*P.cellsOf e/\(∀y∈xs,bn y=true)/\
   ∀i,i<n->∃m y,DataW.trod enc P W 0 (λ_=>true) true m e ((xs.drop (i*P.cellsOf e)).take (P.cellsOf e))=some y:=by
 refine HZ ht mc flat hd (λa len cap hv=>?_) HR dW
 subst hv
 simp only [Cell.okWide,ht,Cell.ok] at aj
 exact aj.2.2.2.1
theorem N5 {e:TypeId} {k:IntKind} (he:P.underlying e=some (.int k)) (hc:P.cellsOf e=1):∀n cs y,DataW.trod enc P W 0 (λ_=>true) true n e cs=some y->cs.length=P.cellsOf e/\∀x∈cs,bn x=true:=by
 intro n cs y h
 obtain ⟨m,rfl,_,_⟩:=DataW.trod_int he h
 exact ⟨by rw [hc];rfl,by simp [bn]⟩
theorem Eg (hl:laidOutB P=true) {W':World} (hb:Below W.heap.size W W'):∀{ts:List TypeId} {vs:List Value} {ds:List (DataW H)} {p:List MemPlace},(∀t∈ts,P.readableRec t=true/\t<P.types.size)->
  DataW.TrodAll enc P W 0 (λ_=>true) true ts vs ds p->(∀x∈p,x.block<W.heap.size)->DataW.TrodAll enc P W' 0 (λb=>decide (b<W.heap.size)) true ts vs ds p
 | [],vs,ds,p,_,h,_=>by
  obtain ⟨rfl,rfl,rfl⟩:=trodAll_nil h
  exact trodAll_mk0
 | t::ts,vs,ds,p,hr,h,hlt=>by
  obtain ⟨v,dh,d,O1,a,b,rfl,rfl,rfl,h1,h2⟩:=trodAll_cons h
  exact trodAll_cons_mk (Below.trod hl (hr t (by simp)).1 (hr t (by simp)).2 h1 hb λx hx=>hlt x (by simp [hx]))
   (Eg hl hb (λt ht=>hr t (by simp [ht])) h2 λx hx=>hlt x (by simp [hx]))
theorem LH (hl:laidOutB P=true) {f:Func} {s:ChangeSpec} {t4:TypeId} {W':World} {args:Array Value} {ds gs:List (DataW H)} {before:List MemPlace} (hW:DataW.Whole enc P f.params.toList s.vars false W args.toList ds gs before)
  (hv:s.vars=[]) (J3:P.underlying t4=some .bool) (hr:f.resultTypes=#[t4]) (vm:∀vc,vc=[]->s.fn H (ds++vc)={ results:=[.lit (.bool true)],args:=ds })
  (JK:∀t∈f.params.toList,P.readableRec t=true/\t<P.types.size) (hb:Below W.heap.size W W'):s.post enc P f false true false false W args (.bool true) W':=by
 have rq:=hW
 obtain ⟨p,q,hA,hV,rfl,_,_⟩:=hW
 rw [hv] at hV
 obtain ⟨rfl,rfl⟩:=trodVars_none hV
 have hlt:∀x∈p,x.block<W.heap.size:=λx hx=>rq.lt x (by simp [hx])
 have e:=vm [] rfl
 refine ⟨ds,[],p++[],[],p,[],rq,?_,?_,?_,hb.frame _,λh=>by cases h⟩
 ·rw [e,hr]
  exact trodAll_mk1 (shut_bool J3 true)
 ·rw [e]
  exact Eg hl hb JK hA hlt
 ·rw [e,hv]
  rfl
end
end
section
def aO (fr:UInt8->UInt8->Bool) (x:UInt8):List UInt8->Nat->Option Nat
 | [],_=>none
 | c::cs,i=>if c=x then some i else if fr c x then aO fr x cs (i+1) else none
def kY:Option Nat->Int
 | none=> -1
 | some i=>i
def bf (s:List UInt8) (i:Nat):List UInt8:=s.take i++s.drop (i+1)
def lt (a:Nat):UInt8:=UInt8.ofNat (97+a)
def cK (fr:UInt8->UInt8->Bool) (s:List UInt8):Nat->Nat->Option (Nat×Nat)
 | 0,_=>none
 | t+1,a=>match aO fr (lt a) s 0 with
  | some i=>some (a,i)
  | none=>cK fr s t (a+1)
def bX (fr:UInt8->UInt8->Bool) (n:Nat):Nat->List UInt8->List UInt8
 | 0,_=>[]
 | f+1,s=>match cK fr s n 0 with
  | some (a,i)=>lt a::bX fr n f (bf s i)
  | none=>[]
def letters (n:Nat) (s:List UInt8):Prop:=∀c∈s,∃a,a<n/\c=lt a
theorem iS {a:Nat} (h:a<100):(lt a).toNat=97+a:=by
 simp [lt,UInt8.toNat_ofNat']
 omega
theorem Lj {a b:Nat} (ha:a<100) (hb:b<100) (h:lt a=lt b):a=b:=by
 have:=congrArg UInt8.toNat h
 rw [iS ha,iS hb] at this
 omega
theorem lK {fr:UInt8->UInt8->Bool} {x:UInt8}:∀{s:List UInt8} {k i:Nat},aO fr x s k=some i->k<=i/\i<k+s.length/\s[i-k]?=some x
 | [],k,i,h=>by simp [aO] at h
 | c::cs,k,i,h=>by
  simp only [aO] at h
  split at h
  ·rename_i hc;simp at h;subst h;subst hc;simp
  ·split at h
   ·obtain ⟨h1,h2,h3⟩:=lK h
    refine ⟨by omega,by simp;omega,?_⟩
    rw [show i-k=(i-(k+1))+1 by omega]
    simpa using h3
   ·cases h
theorem gu {s:List UInt8} {i:Nat} (h:i<s.length):(bf s i).length+1=s.length:=by
 simp [bf];omega
theorem gU {n:Nat} {s:List UInt8} (h:letters n s) (i:Nat):letters n (bf s i):=by
 intro c hc
 simp only [bf,List.mem_append] at hc
 rcases hc with hc | hc
 ·exact h c (List.mem_of_mem_take hc)
 ·exact h c (List.mem_of_mem_drop hc)
theorem DG {fr:UInt8->UInt8->Bool} {s:List UInt8}:∀{t a b:Nat},a<=b->b<a+t->(∃i,aO fr (lt b) s 0=some i)->∃c i,cK fr s t a=some (c,i)/\a<=c/\c<=b/\aO fr (lt c) s 0=some i
 | 0,a,b,h1,h2,_=>by omega
 | t+1,a,b,h1,h2,hb=>by
  simp only [cK]
  cases hf:aO fr (lt a) s 0 with
  | some i=>exact ⟨a,i,rfl,le_refl _,h1,hf⟩
  | none=>
   have aV:a≠b:=by
    rintro rfl
    rw [hf] at hb
    obtain ⟨i,hi⟩:=hb
    cases hi
   obtain ⟨c,i,e1,e2,e3,e4⟩:=DG (t:=t) (a:=a+1) (b:=b) (by omega) (by omega) hb
   exact ⟨c,i,e1,by omega,e3,e4⟩
theorem mC {fr:UInt8->UInt8->Bool} {s:List UInt8} {n:Nat} (hs:s≠[]) (hl:letters n s):∃a i,cK fr s n 0=some (a,i)/\a<n/\i<s.length/\aO fr (lt a) s 0=some i:=by
 cases s with
 | nil=>exact absurd rfl hs
 | cons c cs=>
  obtain ⟨b,hb,rfl⟩:=hl c (by simp)
  obtain ⟨a,i,e1,e2,e3,e4⟩:=DG (fr:=fr) (s:=lt b::cs) (t:=n) (a:=0) (b:=b) (by omega) (by omega) ⟨0,by simp [aO]⟩
  have:=lK e4
  exact ⟨a,i,e1,by omega,by omega,e4⟩
theorem uU {fr gr:UInt8->UInt8->Bool} {x:UInt8}:∀{s:List UInt8} {k:Nat},(∀c∈s,fr c x=gr c x)->aO fr x s k=aO gr x s k
 | [],k,_=>rfl
 | c::cs,k,h=>by
  simp only [aO]
  rw [h c (by simp),uU (λd hd=>h d (by simp [hd]))]
theorem DD {fr gr:UInt8->UInt8->Bool} {s:List UInt8}:∀{t a:Nat},(∀b,a<=b->b<a+t->∀c∈s,fr c (lt b)=gr c (lt b))->cK fr s t a=cK gr s t a
 | 0,a,_=>rfl
 | t+1,a,h=>by
  simp only [cK]
  rw [uU (h a (le_refl _) (by omega)),DD (λb h1 h2=>h b (by omega) (by omega))]
theorem DE {fr:UInt8->UInt8->Bool} {s:List UInt8}:∀{t u a:Nat},(∃x,cK fr s t a=some x)->cK fr s (t+u) a=cK fr s t a
 | 0,u,a,h=>by obtain ⟨x,hx⟩:=h;cases hx
 | t+1,u,a,h=>by
  rw [show t+1+u=(t+u)+1 by omega]
  simp only [cK] at h⊢
  split
  ·rfl
  ·rename_i hn
   rw [hn] at h
   exact DE h
theorem BZ {fr gr:UInt8->UInt8->Bool} {n m:Nat} (vA:n<=m):∀{f:Nat} {s:List UInt8},letters n s->(∀a b,a<n->b<n->fr (lt a) (lt b)=gr (lt a) (lt b))->bX fr n f s=bX gr m f s
 | 0,s,_,_=>rfl
 | f+1,s,hl,hfr=>by
  simp only [bX]
  have e1:cK fr s n 0=cK gr s n 0:=DD λb _ h2 c hc=>by
   obtain ⟨a,ha,rfl⟩:=hl c hc
   exact hfr a b ha (by omega)
  by_cases hs:s=[]
  ·subst hs
   have:∀t a,cK gr [] t a=none:=by
    intro t
    induction t with
    | zero=>intro a;rfl
    | succ t ih=>intro a;simp [cK,aO,ih]
   rw [e1,this,this]
  ·obtain ⟨a,i,q1,q2,q3,q4⟩:=mC (fr:=gr) hs hl
   have e2:cK gr s m 0=cK gr s n 0:=by
    rw [show m=n+(m-n) by omega]
    exact DE ⟨_,q1⟩
   rw [e1,e2,q1]
   simp only
   rw [BZ vA (gU hl i) hfr]
end
section
theorem G9 {P:Program} {F:FuncId} {args:List Value} {h:ad} {K:Value->ad->Prop}
  (hc:az P F args h λu h'=>EX h h'/\∃i o V,h.length<=i/\h'[i]?=some o/\iW o=true/\Ren V/\u=V i/\K (V h.length) (h++[o])):az P F args h K:=by
 rw [iu] at hc
 obtain ⟨u,h',hc,hex,i,o,V,h1,h2,h3,h4,h5,h6⟩:=hc
 exact As h4 h3 (.mk ⟨u,h',hc,hex,i,h1,h2,h5⟩) h6
theorem DS (k:IntKind) (a b:Nat) (hb:b≠0):au .rem (.int k (a:Int)) (.int k (b:Int))=some (.int k ((a%b:Nat):Int)):=by
 have h:¬((b:Int)=0):=by omega
 simp only [au,fP,if_true,if_neg h]
 congr 2
structure NS (h:ad) (v:Value) (k:IntKind) (ns:List Int):Prop where
 len:eK v=some (I ns.length)
 get:∀i (hi:i<ns.length),∃b o,cd 1 v (I i)=some (pt b o)/\aw false 1 h (pt b o)=some (.int k ns[i])
 le:ns.length<=maxLen
theorem Le {h h':ad} (k:EX h h') {agg:Bool} {n:Nat} {a v:Value} (hl:aw agg n h a=some v):aw agg n h' a=some v:=by
 unfold aw at hl⊢
 split at hl
 ·rename_i i o
  cases hc:aU h i with
  | none=>rw [hc] at hl;cases hl
  | some xs=>rw [hc] at hl;rw [k.cells hc];exact hl
 ·cases hl
theorem NS.mono {h h':ad} {v:Value} {k:IntKind} {ns:List Int} (e:EX h h') (p:NS h v k ns):NS h' v k ns:=
 ⟨p.len,λj hj=>let ⟨i,o,a,b⟩:=p.get j hj;⟨i,o,a,Le e b⟩,p.le⟩
theorem NS.nil (h:ad) (k:IntKind):NS h (.slice none 0 0) k []:=⟨rfl,λi hi=>by simp at hi,by simp⟩
theorem NS.sl {h:ad} {e:TypeId} {i:Nat} {k:IntKind} {ns:List Int} (hc:ns=[]∨aU h i=some (ns.map (Value.int k))) (hl:ns.length<=maxLen):NS h (sl e i 0 ns.length) k ns:=by
 refine ⟨rfl,λj hj=>⟨i,j,?_,?_⟩,hl⟩
 ·have:(0:Int)<=(j:Int)/\(j:Int)<(ns.length:Int):=by omega
  simp [Go.Sim.sl,cd,this]
 ·have hc:=hc.resolve_left (by rintro rfl;simp at hj)
  simp [aw,hc,cY,hj]
section
open Go.ChangeShapes
variable {P : Program} {W : World} {ρ : ai} {h : ad} {H : Type} {enc : TypeId × Value -> H}
theorem BL {e:TypeId} {k:IntKind} (he:P.underlying e=some (.int k)):∀{n:Nat} {xs:List Value},xs.length=n*1->(∀i,i<n->∃m y,DataW.trod enc P W 0 (λ_=>true) true m e ((xs.drop (i*1)).take 1)=some y)->
  ∃ns:List Int,ns.length=n/\xs=ns.map (Value.int k)/\∀x∈ns,(Lit.int k x).wf=true
 | 0,xs,hl,_=>⟨[],rfl,by simpa using hl,by simp⟩
 | n+1,xs,hl,hp=>by
  match xs,hl with
  | x::xs,hl=>
   obtain ⟨m,y,hy⟩:=hp 0 (by omega)
   simp at hy
   obtain ⟨z,hz,_,hw⟩:=DataW.trod_int he hy
   simp at hz
   subst hz
   obtain ⟨ns,h1,h2,h3⟩:=BL he (n:=n) (xs:=xs) (by simp at hl;omega) λi hi=>by
    have:=hp (i+1) (by omega)
    rw [show (i+1)*1=i*1+1 by omega] at this
    simpa using this
   exact ⟨z::ns,by simp [h1],by simp [h2],by intro a ha;rcases mem_cons.1 ha with rfl | ha;exact hw;exact h3 a ha⟩
theorem HX {t e:TypeId} {k:IntKind} (ht:P.underlying t=some (.slice e)) (he:P.underlying e=some (.int k)) (nt:P.cellsOf e=1)
  {fuel b:Nat} {v:Value} {x:DataW H×List MemPlace} (hd:DataW.trod enc P W 0 (λ_=>true) true fuel t [v]=some x) (aj:Cell.okWide P W .any b t v) (HR:av P ρ h W) (dW:gp h):
  ∃(ae:ai) (g:ad) (v':Value) (ns:List Int),ρ.le ae/\av P ae (h++g) W/\gp (h++g)/\af ae v' v/\cz v'=true/\NS (h++g) v' k ns/\∀x∈ns,(Lit.int k x).wf=true:=by
 obtain ⟨ae,g,v',n,xs,e1,e2,e3,e4,e5,e6,e7,e8,e9⟩:=HY ht (by rw [nt];exact Nat.succ_ne_zero 0) (N5 he nt) hd aj HR dW
 rw [nt] at e7 e9
 obtain ⟨ns,q1,rfl,q3⟩:=BL he e7 e9
 refine ⟨ae,g,v',ns,e1,e2,e3,e4,e5,?_,q3⟩
 have hlen:n<=maxLen:=by
  rcases e6 with ⟨rfl,rfl⟩ | ⟨i,rfl,_⟩
  ·simp
  ·obtain ⟨r,o',c',_,_,_,_,h4,h5,_⟩:=Eb e4
   omega
 rcases e6 with ⟨rfl,rfl⟩ | ⟨i,rfl,h0⟩
 ·have:ns=[]:=List.length_eq_zero_iff.1 q1
  subst this
  exact NS.nil _ _
 ·subst q1
  exact NS.sl (h0.imp (λh=>List.length_eq_zero_iff.1 h) id) hlen
end
end
end Go.Sim
