/-
  Part 1 of the texts behind a statement of this seat: Sim1, Sim2, Sim3, Sim4, Sim5, Sim6, Sim7, Sim8, Sim7d, Sim9, Sim9g, Sim10, Sim11, Sim12, Sim13, Sim14.
-/
import Derived.WalkKit
import Derived.Laws.Append
import Derived.Laws.AppendOwn
import Derived.Laws.MakeOwn
import Derived.Laws.BytesString
import Derived.RangeFuncRecord
import Derived.Lib.Bytealg
import Derived.WalkSpells
import Derived.WideKeyArr
import Derived.MapKept
import Derived.Laws.CopyRow
import Derived.Laws.IdiomCopy
open Array (ext' getElem?_eq_getElem getElem?_toList)
open Bool (and_eq_true)
open List (all_eq_true getElem?_append_left getElem?_set_ne mem_of_getElem?)
open Nat (add_mul le_refl le_trans zero_add)
open Option (bind_eq_some_iff map_eq_some_iff)
namespace Go.Sim
section
theorem eA {p : Prop} [Decidable p] (h : ¬p) : decide p = false := decide_eq_false h
theorem hC {p : Prop} [Decidable p] (h : p) : decide p = true := decide_eq_true h
theorem dh {n m : Nat} (h : Nat.ble n m = true) : n <= m := Nat.le_of_ble_eq_true h
theorem bw {α : Type} {l : List α} {i : Nat} {a : α} (h : l[i]? = some a) : ∃ h : i < l.length, l[i] = a := List.getElem?_eq_some_iff.1 h
structure RI where
 aD:Nat
 sh:Nat
 elem:TypeId
 aL:Nat
 size:Nat
abbrev ai:=Nat->Option RI
structure nm where
 N:Nat
 ps:Array Tmp
 dF:Code
 body:Code
inductive ca where
 | int (k:IntKind)
 | str
 | ints (n:Nat) (k:IntKind)
 deriving DecidableEq
def fa (k:IntKind):Value->Bool
 | .int k' _=>decide (k'=k)
 | _=>false
def uY (k:IntKind):Value->Bool
 | .int _ n=>decide (k.min<=n)&&decide (n<=k.max)
 | _=>false
def bT:ca->Value->Bool
 | .int k,v=>fa k v
 | .str,.string _=>true
 | .ints n k,.agg cs=>decide (cs.size=n)&&cs.toList.all λv=>fa k v&&uY k v
 | _,_=>false
inductive aA where
 | ro (e:TypeId) (xs:List Value)
 | arr (e:TypeId) (xs:List Value)
 | smap (es:List (ByteArray×Value))
 | dW (kd:IntKind) (es:List (Int×Value))
 | cq (g:ca) (clock:Nat) (es:List (Nat×Value×Value))
 | iter (m rN:Nat) (seen:List Nat) (last:Nat)
 | loop (c:nm) (ls:List Nat) (vs:List Value)
 | dead
abbrev ad:=List aA
abbrev xM:Value:=.complex .f32 0 0
def ep:List Nat->List Value->Nat->Value
 | l::ls,v::vs,j=>match Nat.beq j l with | true=>v | false=>ep ls vs j
 | _,_,_=>xM
theorem Jt (l:Nat) (ls:List Nat) (v:Value) (vs:List Value) (j:Nat):ep (l::ls) (v::vs) j=if j=l then v else ep ls vs j:=by
 show (match Nat.beq j l with | true=>v | false=>ep ls vs j)=_
 split
 ·rename_i h;rw [if_pos (Nat.eq_of_beq_eq_true h)]
 ·rename_i h;rw [if_neg (Nat.ne_of_beq_eq_false h)]
def cL:Value->Bool
 | .agg _ | .tuple _ | .complex _ _ _=>false
 | _=>true
inductive af (ρ:ai):Value->Value->Prop
 | bool (b:Bool):af ρ (.bool b) (.bool b)
 | int (k:IntKind) (n:Int):af ρ (.int k n) (.int k n)
 | string (s:ByteArray):af ρ (.string s) (.string s)
 | nilPtr:af ρ (.pointer none) (.pointer none)
 | gv:af ρ (.slice none 0 0) (.slice none 0 0)
 | iR:af ρ (.map none) (.map none)
 | nilFunc:af ρ .nilFunc .nilFunc
 | nilIface:af ρ .nilIface .nilIface
 | ptr {i o:Nat} {r:RI}:ρ i=some r->af ρ (.pointer (some ⟨i,o,none⟩)) (.pointer (some ⟨r.aD,r.sh+o,none⟩))
 | slice {i o n o' c':Nat} {r:RI}:ρ i=some r->(o'=r.sh+o∨(n=0/\0<o/\c'=0))->n<=c'->c'<=maxLen->o'+c'*r.aL<=r.size->
   af ρ (.slice (some ⟨i,o,some r.elem⟩) n n) (.slice (some ⟨r.aD,o',none⟩) n c')
 | void (a:Addr):af ρ (.slice none 0 1) (.slice (some a) 0 0)
 | map {i:Nat} {r:RI}:ρ i=some r->af ρ (.map (some i)) (.map (some r.aD))
 | func (f:FuncId) {xs ys xs' iC:Array Value}:xs.size=xs'.size->ys.size=iC.size->
   (∀(k:Nat) (x x':Value),xs[k]?=some x->xs'[k]?=some x'->af ρ x x')->
   (∀(k:Nat) (x x':Value),ys[k]?=some x->iC[k]?=some x'->af ρ x x')->af ρ (.func (.func f) xs ys) (.func (.func f) xs' iC)
 | yield {i:Nat} {r:RI}:ρ i=some r->af ρ (.func (.yield i) #[] #[]) (.func (.yield r.aD) #[] #[])
 | agg {xs xs':Array Value}:xs.size=xs'.size->(∀x∈xs.toList,cL x=true)->(∀(k:Nat) (x x':Value),xs[k]?=some x->xs'[k]?=some x'->af ρ x x')->af ρ (.agg xs) (.agg xs')
 | any (v:Value):af ρ (.complex .f32 0 0) v
 | tuple {xs xs':Array Value}:xs.size=xs'.size->(∀(k:Nat) (x x':Value),xs[k]?=some x->xs'[k]?=some x'->af ρ x x')->af ρ (.tuple xs) (.tuple xs')
def ai.le (ρ ae:ai):Prop:=∀i r,ρ i=some r->ae i=some r
theorem ai.le.refl (ρ:ai):ρ.le ρ:=λ_ _ h=>h
theorem ai.le.trans {a b c:ai} (h:a.le b) (k:b.le c):a.le c:=λi r e=>k i r (h i r e)
theorem af.mono {ρ ae:ai} (h:ρ.le ae) {v v':Value} (hv:af ρ v v'):af ae v v':=by
 induction hv with
 | bool b=>exact .bool b
 | int k n=>exact .int k n
 | string s=>exact .string s
 | nilPtr=>exact .nilPtr
 | gv=>exact .gv
 | iR=>exact .iR
 | nilFunc=>exact .nilFunc
 | nilIface=>exact .nilIface
 | ptr hi=>exact .ptr (h _ _ hi)
 | slice hi a b c d=>exact .slice (h _ _ hi) a b c d
 | void a=>exact .void a
 | map hi=>exact .map (h _ _ hi)
 | func f a b _ _ uT uU=>exact .func f a b (λk x x' e e'=>uT k x x' e e') (λk x x' e e'=>uU k x x' e e')
 | yield hi=>exact .yield (h _ _ hi)
 | agg a b _ ih=>exact .agg a b (λk x x' e e'=>ih k x x' e e')
 | any v=>exact .any v
 | tuple a _ ih=>exact .tuple a (λk x x' e e'=>ih k x x' e e')
theorem af.undef (ρ:ai):af ρ undef undef:=.tuple rfl (λk x x' e e'=>by simp at e)
inductive aC (ρ:ai):List Value->List Value->Prop
 | nil:aC ρ [] []
 | cons {x y:Value} {xs ys:List Value}:af ρ x y->aC ρ xs ys->aC ρ (x::xs) (y::ys)
theorem aC.mono {ρ ae:ai} (h:ρ.le ae) {xs ys:List Value} (hv:aC ρ xs ys):aC ae xs ys:=by
 induction hv with
 | nil=>exact .nil
 | cons a _ ih=>exact .cons (a.mono h) ih
theorem aC.length {ρ:ai} {xs ys:List Value} (hv:aC ρ xs ys):xs.length=ys.length:=by
 induction hv with
 | nil=>rfl
 | cons _ _ ih=>simp [ih]
theorem aC.get {ρ:ai} {xs ys:List Value} (hv:aC ρ xs ys):∀{k:Nat} {x:Value},xs[k]?=some x->∃y,ys[k]?=some y/\af ρ x y:=by
 induction hv with
 | nil=>intro k x h;simp at h
 | cons a _ ih=>
  intro k x h
  cases k with
  | zero=>simp at h;subst h;exact ⟨_,by simp,a⟩
  | succ k=>simp at h;obtain ⟨y,hy,hr⟩:=ih h;exact ⟨y,by simpa using hy,hr⟩
theorem aC.append {ρ:ai} {xs ys xs' iC:List Value} (h:aC ρ xs ys) (h':aC ρ xs' iC):aC ρ (xs++xs') (ys++iC):=by
 induction h with
 | nil=>exact h'
 | cons a _ ih=>exact .cons a ih
theorem aC.vi {ρ:ai}:∀{xs ys:List Value},xs.length=ys.length->(∀(k:Nat) (x y:Value),xs[k]?=some x->ys[k]?=some y->af ρ x y)->aC ρ xs ys
 | [],[],_,_=>.nil
 | x::xs,y::ys,hl,h=>.cons (h 0 x y rfl rfl) (aC.vi (by simpa using hl) λk a b ha hb=>h (k+1) a b (by simpa using ha) (by simpa using hb))
theorem aC.take {ρ:ai} {xs ys:List Value} (h:aC ρ xs ys):∀n,aC ρ (xs.take n) (ys.take n):=by
 induction h with
 | nil=>intro n;simp;exact .nil
 | cons a _ ih=>intro n;cases n with
  | zero=>exact .nil
  | succ n=>exact .cons a (ih n)
theorem aC.drop {ρ:ai} {xs ys:List Value} (h:aC ρ xs ys):∀n,aC ρ (xs.drop n) (ys.drop n):=by
 induction h with
 | nil=>intro n;simp;exact .nil
 | cons a b ih=>intro n;cases n with
  | zero=>exact .cons a b
  | succ n=>exact ih n
theorem aC.kr {ρ:ai} {xs xs':Array Value} (hs:xs.size=xs'.size) (h:∀(k:Nat) (x x':Value),xs[k]?=some x->xs'[k]?=some x'->af ρ x x'):aC ρ xs.toList xs'.toList:=
 aC.vi (by simpa using hs) λk x y hx hy=>h k x y (by simpa using hx) (by simpa using hy)
theorem aC.ofList {ρ:ai} {xs xs':List Value} (h:aC ρ xs xs'):∀(k:Nat) (x x':Value),xs.toArray[k]?=some x->xs'.toArray[k]?=some x'->af ρ x x':=by
 intro k x x' hx b0
 obtain ⟨y,hy,hr⟩:=h.get (k:=k) (x:=x) (by simpa using hx)
 simp at b0
 rw [hy] at b0
 cases b0
 exact hr
theorem af.nr {ρ:ai} {xs xs':List Value} (h:aC ρ xs xs') (h1:∀x∈xs,cL x=true):af ρ (.agg xs.toArray) (.agg xs'.toArray):=.agg (by simpa using h.length) (by simpa using h1) h.ofList
theorem af.iV {ρ:ai} {xs xs':List Value} (h:aC ρ xs xs'):af ρ (.tuple xs.toArray) (.tuple xs'.toArray):=.tuple (by simpa using h.length) h.ofList
def aZ (v:Value):List Value:=v.cells.toList
def dM:Value->Bool
 | .tuple _ | .complex _ _ _=>false
 | _=>true
theorem af.cells {ρ:ai} {v v':Value} (h:af ρ v v') (hn:dM v=true):aC ρ (aZ v) (aZ v'):=by
 cases h with
 | any _=>simp [dM] at hn
 | agg hs _ h=>exact aC.kr hs h
 | bool b=>exact .cons (.bool b) .nil
 | int k n=>exact .cons (.int k n) .nil
 | string s=>exact .cons (.string s) .nil
 | nilPtr=>exact .cons .nilPtr .nil
 | gv=>exact .cons .gv .nil
 | iR=>exact .cons .iR .nil
 | nilFunc=>exact .cons .nilFunc .nil
 | nilIface=>exact .cons .nilIface .nil
 | ptr hi=>exact .cons (.ptr hi) .nil
 | slice hi a b c d=>exact .cons (.slice hi a b c d) .nil
 | void a=>exact .cons (.void a) .nil
 | map hi=>exact .cons (.map hi) .nil
 | func f a b c d=>exact .cons (.func f a b c d) .nil
 | yield hi=>exact .cons (.yield hi) .nil
 | tuple a b=>simp [dM] at hn
def bF (h:ad) (i:Nat):Prop:=∃o,h[i]?=some o/\o≠ .dead
def aI (h:ad) (i:Nat):Prop:=(∃e xs,h[i]?=some (.arr e xs))∨(∃es,h[i]?=some (.smap es))∨(∃c ls vs,h[i]?=some (.loop c ls vs))∨(∃kd es,h[i]?=some (.dW kd es))∨(∃g c es,h[i]?=some (.cq g c es))∨(∃m s n l,h[i]?=some (.iter m s n l))
theorem aI.live {h:ad} {i:Nat} (hm:aI h i):bF h i:=by
 rcases hm with ⟨e,xs,hm⟩ | ⟨es,hm⟩ | ⟨c,ls,vs,hm⟩ | ⟨kd,es,hm⟩ | ⟨g,c,es,hm⟩ | ⟨m,s,n,l,hm⟩
 ·exact ⟨_,hm,by simp⟩
 ·exact ⟨_,hm,by simp⟩
 ·exact ⟨_,hm,by simp⟩
 ·exact ⟨_,hm,by simp⟩
 ·exact ⟨_,hm,by simp⟩
 ·exact ⟨_,hm,by simp⟩
def bV (ρ:ai) (c:Array Value) (sh:Nat) (xs:List Value):Prop:=∀(j:Nat) (x:Value),xs[j]?=some x->cL x=true/\∃y,c[sh+j]?=some y/\af ρ x y
theorem af.oN {ρ:ai} {v v':Value} (h:af ρ v v') (hc:cL v=true):v'.oneCell'=true:=by
 cases h <;> first | rfl | simp [cL] at hc
theorem aC.oN {ρ:ai} {xs ys:List Value} (h:aC ρ xs ys) (h1:∀x∈xs,cL x=true):∀y∈ys,y.oneCell'=true:=by
 induction h with
 | nil=>intro y hy;simp at hy
 | cons a _ ih=>
  intro y hy
  rcases List.mem_cons.1 hy with rfl | hy
  ·exact a.oN (h1 _ (by simp))
  ·exact ih (λx hx=>h1 x (by simp [hx])) y hy
theorem af.qf {ρ:ai} {v v':Value} (h:af ρ v v') (ht:dM v=true):∀x∈aZ v,cL x=true:=by
 cases h with
 | agg hs h1 h=>exact h1
 | tuple _ _=>simp [dM] at ht
 | any _=>simp [dM] at ht
 | _=>intro x hx;simp [aZ,Value.cells] at hx;subst hx;rfl
theorem bV.of {ρ:ai} {xs:List Value} {c:Array Value} (h:aC ρ xs c.toList) (h1:∀x∈xs,cL x=true):bV ρ c 0 xs:=by
 intro j x hj
 obtain ⟨y,hy,hr⟩:=h.get hj
 exact ⟨h1 x (mem_of_getElem? hj),y,by simpa using hy,hr⟩
def eI (ρ:ai) (w:World) (r:RI):aA->Prop
 | .ro e xs=>r.elem=e/\∃c t fr,w.heap[r.aD]?=some (.cells c t fr)/\c.size=r.size/\bV ρ c r.sh xs
 | .arr e xs=>r.elem=e/\r.sh=0/\∃c,w.heap[r.aD]?=some (.cells c e (0,0))/\c.size=r.size/\bV ρ c 0 xs
 | .smap es=>∃aj clock,w.heap[r.aD]?=some (.map aj clock)/\aj.size=es.length/\
   ∀(j:Nat) (k:ByteArray) (v:Value),es[j]?=some (k,v)->∃en,aj[j]?=some en/\en.key=.string k/\af ρ v en.val
 | .dW kd es=>∃aj clock,w.heap[r.aD]?=some (.map aj clock)/\aj.size=es.length/\
   ∀(j:Nat) (k:Int) (v:Value),es[j]?=some (k,v)->∃en,aj[j]?=some en/\en.key=.int kd k/\af ρ v en.val
 | .cq g clock es=>(es.map λe=>e.2.1).Nodup/\∃aj,w.heap[r.aD]?=some (.map aj clock)/\aj.size=es.length/\
   ∀(j b:Nat) (k v:Value),es[j]?=some (b,k,v)->bT g k=true/\∃en,aj[j]?=some en/\en.key=k/\en.born=b/\af ρ v en.val
 | .iter m rN seen last=>r.sh=0/\∃rm,ρ m=some rm/\w.heap[r.aD]?=some (.mapIter (some rm.aD) rN seen.toArray last)
 | .loop c ls vs=>∃rec,w.heap[r.aD]?=some (.loop rec)/\rec.state=.ready/\rec.pending=none/\rec.assign=c.dF/\rec.body=c.body/\rec.params=c.ps/\rec.tmps.size=c.N/\
   ∀t,af ρ (ep ls vs t) (rec.tmps.getD t Go.undef)
 | .dead=>True
structure ar (P:Program) (ρ:ai) (h:ad) (w:World):Prop where
 obj:∀i r,ρ i=some r->∃o,h[i]?=some o/\eI ρ w r o
 inj:∀i j r s,ρ i=some r->ρ j=some s->r.aD=s.aD->aI h i->bF h j->i=j
 aL:∀i r,ρ i=some r->r.aL=P.cellsOf r.elem
theorem ar.lt {P:Program} {ρ:ai} {h:ad} {w:World} (H:ar P ρ h w) {i:Nat} {r:RI} (hi:ρ i=some r):i<h.length:=by
 obtain ⟨o,ho,_⟩:=H.obj i r hi
 exact (bw ho).1
structure Tr (ρ:ai) (h:ad) (w:World) (ae:ai) (h':ad) (w':World):Prop where
 ext:ρ.le ae
 len:h.length<=h'.length
 cV:∀i r,ρ i=some r->i<h.length
 kinds:∀i,i<h.length->aI h' i->aI h i
 fresh:∀i r,ae i=some r->ρ i=none->h.length<=i/\(w.heap.size<=r.aD∨∃j s,ρ j=some s/\s.aD=r.aD/\aI h j)
 cu:w.heap.size<=w'.heap.size
 ck:∀b,b<w.heap.size->(∀j s,ρ j=some s->s.aD=b->¬aI h j)->w'.heap[b]?=w.heap[b]?
 os:w'.os=w.os
 tape:w'.tape=w.tape
 output:w'.output=w.output
theorem Tr.refl {P:Program} {ρ:ai} {h:ad} {w:World} (H:ar P ρ h w):Tr ρ h w ρ h w where
 ext:=.refl _
 len:=le_refl _
 cV:=λ_ _ hi=>H.lt hi
 kinds:=λ_ _ h=>h
 fresh:=λi r h1 h2=>by rw [h1] at h2;cases h2
 cu:=le_refl _
 ck:=λ_ _ _=>rfl
 os:=rfl
 tape:=rfl
 output:=rfl
theorem Tr.trans {l4 wR CJ:ai} {h₁ zS qS:ad} {iz r4 CG:World} (a:Tr l4 h₁ iz wR zS r4) (b:Tr wR zS r4 CJ qS CG):Tr l4 h₁ iz CJ qS CG where
 ext:=a.ext.trans b.ext
 len:=le_trans a.len b.len
 cV:=a.cV
 kinds:=λi hi hm=>a.kinds i hi (b.kinds i (Nat.lt_of_lt_of_le hi a.len) hm)
 fresh:=by
  intro i r h3 h1
  cases h2:wR i with
  | some r2=>
   have:=b.ext i r2 h2
   rw [h3] at this
   cases this
   exact a.fresh i r h2 h1
  | none=>
   obtain ⟨hl,hb⟩:=b.fresh i r h3 h2
   refine ⟨le_trans a.len hl,?_⟩
   rcases hb with hb | ⟨j,s,hj,hs,hm⟩
   ·exact .inl (le_trans a.cu hb)
   ·cases jo:l4 j with
    | some s'=>
     have:=a.ext j s' jo
     rw [hj] at this
     cases this
     exact .inr ⟨j,s,jo,hs,a.kinds j (a.cV j s jo) hm⟩
    | none=>
     obtain ⟨_,h⟩:=a.fresh j s hj jo
     rw [hs] at h
     rcases h with h | ⟨j',s',q1,q2,q3⟩
     ·exact .inl h
     ·exact .inr ⟨j',s',q1,q2,q3⟩
 cu:=le_trans a.cu b.cu
 ck:=by
  intro k hk aH
  rw [b.ck k (Nat.lt_of_lt_of_le hk a.cu) ?_,a.ck k hk aH]
  intro j s hj hs hm
  cases jo:l4 j with
  | some s'=>
   have:=a.ext j s' jo
   rw [hj] at this
   cases this
   exact aH j s jo hs (a.kinds j (a.cV j s jo) hm)
  | none=>
   obtain ⟨_,h⟩:=a.fresh j s hj jo
   rcases h with h | ⟨j',s',q1,q2,q3⟩
   ·omega
   ·exact aH j' s' q1 (by omega) q3
 os:=b.os.trans a.os
 tape:=b.tape.trans a.tape
 output:=b.output.trans a.output
theorem ar.drew {P:Program} {ρ:ai} {h:ad} {w:World} (H:ar P ρ h w) (n:Nat):ar P ρ h { w with drawn:=n }:=
 ⟨λi r hi=>let ⟨o,ho,hr⟩:=H.obj i r hi;⟨o,ho,by cases o <;> exact hr⟩,H.inj,H.aL⟩
theorem Tr.drew {P:Program} {ρ:ai} {h:ad} {w:World} (H:ar P ρ h w) (n:Nat):Tr ρ h w ρ h { w with drawn:=n } where
 ext:=.refl _
 len:=le_refl _
 cV:=λ_ _ hi=>H.lt hi
 kinds:=λ_ _ h=>h
 fresh:=λi r h1 h2=>by rw [h1] at h2;cases h2
 cu:=le_refl _
 ck:=λ_ _ _=>rfl
 os:=rfl
 tape:=rfl
 output:=rfl
def mark (D:Nat):Deferred:={ target:=.collected D,args:=#[] }
def marks (B:Nat):List Deferred->World->Prop
 | [],w=>B<=w.heap.size
 | d::ds,w=>(∃D,d=mark D/\B<=D/\w.heap[D]?=some (.deferred (some []))/\∀d'∈ds,d'≠mark D)/\marks B ds w
theorem ar.vh {P:Program} {ρ:ai} {h:ad} {w:World} (H:ar P ρ h w) {D:Nat} {x:Option (List Deferred)} (hD:w.heap[D]?=some (.deferred x)) {j:Nat} {s:RI} (hj:ρ j=some s) (hs:s.aD=D):¬bF h j:=by
 rintro ⟨o,ho,bc⟩
 obtain ⟨o',bg,hr⟩:=H.obj j s hj
 rw [ho] at bg
 cases bg
 subst hs
 cases o with
 | ro e xs=>obtain ⟨_,c,_,fr,h2,_⟩:=hr;rw [hD] at h2;cases h2
 | arr e xs=>obtain ⟨_,_,c,h2,_⟩:=hr;rw [hD] at h2;cases h2
 | smap es=>obtain ⟨aj,clock,h1,_⟩:=hr;rw [hD] at h1;cases h1
 | dW kd es=>obtain ⟨aj,clock,h1,_⟩:=hr;rw [hD] at h1;cases h1
 | cq g c es=>obtain ⟨_,aj,h1,_⟩:=hr;rw [hD] at h1;cases h1
 | iter m s n l=>obtain ⟨_,rm,_,h1⟩:=hr;rw [hD] at h1;cases h1
 | loop c ls vs=>obtain ⟨rec,h1,_⟩:=hr;rw [hD] at h1;cases h1
 | dead=>exact bc rfl
theorem marks.tr {P:Program} {ρ ae:ai} {h h':ad} {w w':World} (H:ar P ρ h w) (T:Tr ρ h w ae h' w') {B:Nat}:∀{ds:List Deferred},marks B ds w->marks B ds w'
 | [],hb=>le_trans hb T.cu
 | d::ds,⟨⟨D,h1,h2,h3,h4⟩,h5⟩=>
  ⟨⟨D,h1,h2,by rw [T.ck D (Array.getElem?_eq_some_iff.1 h3).1 λj s hj hs hm=>H.vh h3 hj hs hm.live];exact h3,h4⟩,marks.tr H T h5⟩
theorem marks.lt {B:Nat} {w:World}:∀{ds:List Deferred},marks B ds w->∀d∈ds,∃D,d=mark D/\D<w.heap.size
 | [],_,d,hd=>by simp at hd
 | d::ds,⟨⟨D,h1,h2,h3,h4⟩,h5⟩,d',hd=>by
  rcases List.mem_cons.1 hd with rfl | hd
  ·exact ⟨D,h1,(Array.getElem?_eq_some_iff.1 h3).1⟩
  ·exact marks.lt h5 d' hd
theorem marks.base {B:Nat} {w:World}:∀{ds:List Deferred},marks B ds w->B<=w.heap.size
 | [],h=>h
 | _::_,h=>marks.base h.2
theorem Ax {a b:Nat} (h:mark a=mark b):a=b:=by
 simp [mark] at h
 exact h
structure bD (P:Program) (N:Nat) (B:Nat) (ρ:ai) (f:Nat->Value) (h:ad) (a:Act) (w:World):Prop where
 size:a.tmps.size=N
 defers:marks B a.defers w
 tmp:∀t,af ρ (f t) (a.tmps.getD t Go.undef)
 heap:ar P ρ h w
def ku (f:Nat->Value) (t:Nat) (v:Value):Nat->Value:=λj=>match Nat.beq j t with | true=>v | false=>f j
theorem iy (f:Nat->Value) (t:Nat) (v:Value):ku f t v=λj=>if j=t then v else f j:=by
 funext j
 unfold ku
 split
 ·rename_i h;rw [if_pos (Nat.eq_of_beq_eq_true h)]
 ·rename_i h;rw [if_neg (Nat.ne_of_beq_eq_false h)]
def ev (f:Nat->Value):Operand->Value
 | .tmp t=>f t
 | .const v=>v
 | .global g=>.pointer (some ⟨g,0,none⟩)
 | .func f=>.func (.func f) #[] #[]
def ez:Value->Bool
 | .bool _ | .int .. | .string _ | .nilFunc | .nilIface=>true
 | .pointer none | .map none=>true
 | .slice none 0 0=>true
 | _=>false
def di:Operand->Bool
 | .tmp _=>true
 | .const v=>ez v
 | .global _=>false
 | .func _=>true
theorem ez.rel {ρ:ai} {v:Value} (h:ez v=true):af ρ v v:=by
 unfold ez at h
 split at h
 ·exact .bool _
 ·exact .int _ _
 ·exact .string _
 ·exact .nilFunc
 ·exact .nilIface
 ·exact .nilPtr
 ·exact .iR
 ·exact .gv
 ·simp at h
theorem bD.ev {P:Program} {N B:Nat} {ρ:ai} {f:Nat->Value} {h:ad} {a:Act} {w:World} (R:bD P N B ρ f h a w) {x:Operand} (hx:di x=true):
  af ρ (ev f x) (a.eval x):=by
 cases x with
 | tmp t=>exact R.tmp t
 | const v=>exact ez.rel hx
 | global g=>simp [di] at hx
 | func g=>exact .func g rfl rfl (λk x x' e e'=>by simp at e) (λk x x' e e'=>by simp at e)
theorem bD.put {P:Program} {N B:Nat} {ρ ae:ai} {f:Nat->Value} {h h':ad} {a:Act} {w w':World} (R:bD P N B ρ f h a w) {d:Nat} (hd:d<N) {v v':Value}
  (T:Tr ρ h w ae h' w') (hv:af ae v v') (H:ar P ae h' w'):bD P N B ae (ku f d v) h' (a.put (some d) v') w' where
 size:=by simp [Act.put,R.size]
 defers:=marks.tr R.heap T R.defers
 tmp:=by
  intro t
  simp only [iy]
  by_cases ht:t=d
  ·subst ht
   have:t<a.tmps.size:=by rw [R.size];exact hd
   simp [Act.put,Array.getD,this]
   exact hv
  ·rw [if_neg ht]
   have:=(R.tmp t).mono T.ext
   have e:((a.put (some d) v').tmps.getD t Go.undef)=a.tmps.getD t Go.undef:=by
    simp only [Act.put,Array.getD_eq_getD_getElem?,Array.getElem?_setIfInBounds]
    rw [if_neg (by omega)]
   rw [e]
   exact this
 heap:=H
theorem bD.mono {P:Program} {N B:Nat} {ρ ae:ai} {f:Nat->Value} {h h':ad} {a:Act} {w w':World} (R:bD P N B ρ f h a w) (T:Tr ρ h w ae h' w') (H:ar P ae h' w'):
  bD P N B ae f h' a w':=⟨R.size,marks.tr R.heap T R.defers,λt=>(R.tmp t).mono T.ext,H⟩
end
section
def S (l:List UInt8):Value:=.string ⟨l.toArray⟩
def bytes (s:ByteArray):List UInt8:=s.data.toList
theorem En (l:List UInt8):bytes ⟨l.toArray⟩=l:=by simp [bytes]
theorem mP (s:ByteArray):(⟨(bytes s).toArray⟩:ByteArray)=s:=by simp [bytes]
theorem Ec (s:ByteArray):S (bytes s)=.string s:=by simp [S,mP]
inductive ga where
 | mv (x:Operand)
 | pick (c a b:Operand)
 | bin (op:BinOp) (x y:Operand)
 | qu (neg:Bool) (x y:Operand)
 | qw (neg:Bool) (x y:Operand)
 | un (op:UnOp) (x:Operand)
 | conv (k:IntKind) (x:Operand)
 | wm (x:Operand)
 | vU (x:Operand)
 | u5 (x:Operand)
 | u6 (x:Operand)
 | q8 (n:Nat)
 | oJ (mx:Bool) (xs:List Operand)
 | uS (x i:Operand)
 | uQ (n aL:Nat) (agg:Bool) (x i:Operand)
 | sM (aL:Nat) (x i:Operand)
 | sL (n aL:Nat) (x i:Operand)
 | tx (off:Nat) (x:Operand)
 | tC (agg:Bool) (off sz:Nat) (x:Operand)
 | rO (x:Operand) (lo hi:Option Operand)
 | rP (e:TypeId) (aL:Nat) (x:Operand) (lo hi:Option Operand)
 | ve (x:Operand)
 | fn (f:FuncId) (first captured:List Operand)
 | ext (x:Operand) (i:Nat)
 | build (zero:List Value) (parts:List (Nat×Nat×Operand))
 | uR (f:FuncId) (x c:Operand)
def gp (op:BinOp) (k:IntKind) (a b:Int):Option Value:=
 match op with
 | .add=>some (.int k (k.wrap (a+b)))
 | .sub=>some (.int k (k.wrap (a-b)))
 | .mul=>some (.int k (k.wrap (a*b)))
 | .quo=>if b=0 then none else some (.int k (k.wrap (a.tdiv b)))
 | .rem=>if b=0 then none else some (.int k (a.tmod b))
 | .and=>some (.int k (k.wrap (BitVec.ofInt k.bits a &&& BitVec.ofInt k.bits b).toNat))
 | .or=>some (.int k (k.wrap (BitVec.ofInt k.bits a ||| BitVec.ofInt k.bits b).toNat))
 | .xor=>some (.int k (k.wrap (BitVec.ofInt k.bits a^^^BitVec.ofInt k.bits b).toNat))
 | .andNot=>some (.int k (k.wrap (BitVec.ofInt k.bits a &&& ~~~BitVec.ofInt k.bits b).toNat))
 | .eql=>some (.bool (decide (a=b)))
 | .neq=>some (.bool (!decide (a=b)))
 | .lss=>some (.bool (decide (a<b)))
 | .leq=>some (.bool (decide (a<=b)))
 | .gtr=>some (.bool (decide (b<a)))
 | .geq=>some (.bool (decide (b<=a)))
 | _=>none
def mK (op:BinOp) (k:IntKind) (a b:Int):Option Value:=
 if b<0 then none else
 match op with
 | .shl=>some (.int k (k.wrap (a*2^(min b.toNat k.bits))))
 | .shr=>some (.int k (a.fdiv (2^(min b.toNat k.bits))))
 | _=>none
def ly (op:BinOp) (a b:List UInt8):Option Value:=
 match op with
 | .add=>if a.length+b.length<=maxLen then some (S (a++b)) else none
 | .eql=>some (.bool (decide (a=b)))
 | .neq=>some (.bool (!decide (a=b)))
 | .lss=>some (.bool (Op.bytesLess a b))
 | .leq=>some (.bool (Op.bytesLess a b||decide (a=b)))
 | .gtr=>some (.bool (!(Op.bytesLess a b||decide (a=b))))
 | .geq=>some (.bool (!Op.bytesLess a b))
 | _=>none
def au (op:BinOp) (x y:Value):Option Value:=
 match x,y with
 | .int k a,.int k' b=>
  match op with
  | .shl=>mK .shl k a b
  | .shr=>mK .shr k a b
  | op=>if k=k' then gp op k a b else none
 | .string s,.string t=>ly op (bytes s) (bytes t)
 | _,_=>none
def qU (neg:Bool) (x y:Value):Option Value:=
 match x,y with
 | .bool a,.bool b=>some (.bool (if neg then !(a==b) else a==b))
 | _,_=>none
def q6:Value->Option Bool
 | .slice none 0 0=>some true
 | .slice (some _) _ _=>some false
 | _=>none
def uH (neg:Bool) (x y:Value):Option Value:=
 match q6 x,q6 y with
 | some a,some b=>if a||b then some (.bool (if neg then !(a&&b) else a&&b)) else none
 | _,_=>none
def eG (op:UnOp) (x:Value):Option Value:=
 match op,x with
 | .neg,.int k n=>some (.int k (k.wrap (0-n)))
 | .not,.bool b=>some (.bool !b)
 | .xor,.int k n=>some (.int k (k.wrap (BitVec.ofInt k.bits (if k.signed then -1 else k.max)^^^BitVec.ofInt k.bits n).toNat))
 | _,_=>none
def jw (k:IntKind):Value->Option Value
 | .int _ n=>some (.int k (k.wrap n))
 | _=>none
def oE (x:Value):Option Value:=
 match x with
 | .int _ n=>some (.string (Utf8.encode n))
 | _=>none
def zT:Value->Option Value
 | .string s=>some (.string s)
 | _=>none
def eN:Value->Option Value
 | .string s=>some (.int .i64 (bytes s).length)
 | _=>none
def cK:Value->Option Value
 | .slice _ n _=>some (.int .i64 n)
 | _=>none
def max2 (mx:Bool):Value->Value->Option Value
 | .int k x,.int _ y=>some (.int k (if mx then (if y>x then y else x) else (if y<x then y else x)))
 | _,_=>none
def fJ (mx:Bool):List Value->Option Value
 | .int k x::rest=>rest.foldlM (max2 mx) (.int k x)
 | _=>none
def du (x i:Value):Option Value:=
 match x,i with
 | .string s,.int _ i=>if 0<=i then ((bytes s)[i.toNat]?).map λb=>.int .u8 b.toNat else none
 | _,_=>none
def dv (agg:Bool) (off sz:Nat) (cs:List Value):Option Value:=
 if agg then (if off+sz<=cs.length then some (.agg ((cs.drop off).take sz).toArray) else none) else cs[off]?
def uJ (n aL:Nat) (agg:Bool) (x i:Value):Option Value:=
 match x,i with
 | .agg cs,.int _ i=>if 0<=i/\i<n then dv agg (i.toNat*aL) aL cs.toList else none
 | _,_=>none
def bQ (aL:Nat) (x i:Value):Option Value:=
 match x,i with
 | .slice (some ⟨id,o,some _⟩) n _,.int _ i=>if 0<=i/\i<n then some (.pointer (some ⟨id,o+i.toNat*aL,none⟩)) else none
 | _,_=>none
def eZ (n aL:Nat) (x i:Value):Option Value:=
 match x,i with
 | .pointer (some ⟨id,o,none⟩),.int _ i=>if 0<=i/\i<n then some (.pointer (some ⟨id,o+i.toNat*aL,none⟩)) else none
 | _,_=>none
def cA (off:Nat) (x:Value):Option Value:=
 match x with
 | .pointer (some ⟨id,o,none⟩)=>some (.pointer (some ⟨id,o+off,none⟩))
 | _=>none
def uI (agg:Bool) (off sz:Nat) (x:Value):Option Value:=
 match x with
 | .agg cs=>dv agg off sz cs.toList
 | _=>none
def lF:Value->Option Nat
 | .int _ i=>if 0<=i then some i.toNat else none
 | _=>none
def kg (n:Nat) (lo hi:Option Value):Option (Nat×Nat):=
 match (match lo with | none=>some 0 | some v=>lF v),(match hi with | none=>some n | some v=>lF v) with
 | some l,some h=>if l<=h/\h<=n then some (l,h) else none
 | _,_=>none
def iQ (x:Value) (lo hi:Option Value):Option Value:=
 match x with
 | .string s=>(kg (bytes s).length lo hi).map λ(l,h)=>S (((bytes s).take h).drop l)
 | _=>none
def lx (e:TypeId) (aL:Nat) (x:Value) (lo hi:Option Value):Option Value:=
 match x with
 | .slice none 0 0=>(kg 0 lo hi).map λ_=>.slice none 0 0
 | .slice (some ⟨id,o,some e'⟩) n _=>
  if e'=e then (kg n lo hi).map λ(l,h)=>.slice (some ⟨id,o+l*aL,some e⟩) (h-l) (h-l) else none
 | _=>none
def kh (x:Value):Option Value:=
 match x with
 | .pointer (some a)=>some (.pointer (some a))
 | .func f a b=>some (.func f a b)
 | _=>none
def gN (i:Nat) (x:Value):Option Value:=
 match x with
 | .tuple vs=>vs[i]?
 | _=>none
def setAt (xs:List Value) (o:Nat) (vs:List Value):List Value:=xs.take o++vs++xs.drop (o+vs.length)
def gE:List Value->List (Nat×Nat×Value)->Option (List Value)
 | xs,[]=>some xs
 | xs,(off,size,v)::rest=>
  if dM v/\(aZ v).length=size/\off+size<=xs.length then gE (setAt xs off (aZ v)) rest else none
def lu (zero:List Value) (parts:List (Nat×Nat×Value)):Option Value:=(gE zero parts).map λcs=>.agg cs.toArray
def bJ (c a b:Value):Option Value:=
 match c with
 | .bool t=>some (if t then a else b)
 | _=>none
def oC (x c:Value):Option Value:=
 match x,c with
 | .string s,.int .u8 c=>some (.int .i64 (Lib.indexByte (bytes s) c.toNat.toUInt8))
 | _,_=>none
def cP (o:ga) (g:Operand->Value):Option Value:=
 match o with
 | .mv x=>some (g x)
 | .pick c a b=>bJ (g c) (g a) (g b)
 | .bin op x y=>au op (g x) (g y)
 | .qu neg x y=>qU neg (g x) (g y)
 | .qw neg x y=>uH neg (g x) (g y)
 | .un op x=>eG op (g x)
 | .conv k x=>jw k (g x)
 | .wm x=>zT (g x)
 | .vU x=>oE (g x)
 | .u5 x=>eN (g x)
 | .u6 x=>cK (g x)
 | .q8 n=>some (.int .i64 n)
 | .oJ mx xs=>fJ mx (xs.map g)
 | .uS x i=>du (g x) (g i)
 | .uQ n aL agg x i=>uJ n aL agg (g x) (g i)
 | .sM aL x i=>bQ aL (g x) (g i)
 | .sL n aL x i=>eZ n aL (g x) (g i)
 | .tx off x=>cA off (g x)
 | .tC agg off sz x=>uI agg off sz (g x)
 | .rO x lo hi=>iQ (g x) (lo.map g) (hi.map g)
 | .rP e aL x lo hi=>lx e aL (g x) (lo.map g) (hi.map g)
 | .ve x=>kh (g x)
 | .fn f first captured=>some (.func (.func f) (first.map g).toArray (captured.map g).toArray)
 | .ext x i=>gN i (g x)
 | .build zero parts=>lu zero (parts.map λ(o,s,x)=>(o,s,g x))
 | .uR f x c=>
  match g (.func f) with
  | .func (.func f') a b=>if f'=f/\a.size=0/\b.size=0 then oC (g x) (g c) else none
  | _=>none
def fw:TypeDesc->Bool
 | .struct _ | .array _ _=>true
 | _=>false
def mf (v:Value):Bool:=ez v&&cL v
def zeroOf (P:Program) (t:TypeId):Option (List Value):=
 match P.info? t with
 | some i=>match i.zero with
  | some z=>if dM z&&(aZ z).all mf&&(aZ z).length==i.size then some (aZ z) else none
  | none=>none
 | none=>none
def placesOf (P:Program) (fs:Array Field):List (Nat×Nat):=fs.toList.map λf=>(f.offset,P.cellsOf f.type)
def cB (P:Program) (t:TypeId):Bool:=(P.info? t).isSome
def tv (P:Program) (f:FuncId):Bool:=
 match P.funcs[f]? with
 | some fn=>fn.body.isNone&&fn.name== "internal/bytealg.IndexByteString" &&(Extern.findNext fn).isNone
 | none=>false
def cJ (P:Program):Op->Option ga
 | .move x | .assign x=>some (.mv x)
 | .pick c a b=>some (.pick c a b)
 | .binOp op t x y _=>
  match op,P.underlying t with
  | .eql,some .bool=>some (.qu false x y)
  | .neq,some .bool=>some (.qu true x y)
  | .eql,some (.slice _)=>some (.qw false x y)
  | .neq,some (.slice _)=>some (.qw true x y)
  | op,_=>some (.bin op x y)
 | .unOp op _ x=>some (.un op x)
 | .convert s d x=>
  match P.underlying s,P.underlying d with
  | some (.int _),some (.int k)=>some (.conv k x)
  | some .string,some .string=>some (.wm x)
  | some (.int _),some .string=>some (.vU x)
  | _,_=>none
 | .call { callee:=.builtin .len,args,argTypes }=>
  match args.toList,argTypes.toList with
  | [x],[t]=>
   match P.underlying t with
   | some .string=>some (.u5 x)
   | some (.slice _)=>some (.u6 x)
   | some (.array n _)=>some (.q8 n)
   | _=>none
  | _,_=>none
 | .call { callee:=.builtin .min,args,argTypes:=_ }=>some (.oJ false args.toList)
 | .call { callee:=.builtin .max,args,argTypes:=_ }=>some (.oJ true args.toList)
 | .call { callee:=.value (.func f),args,argTypes:=_ }=>
  match args.toList with
  | [x,c]=>if tv P f then some (.uR f x c) else none
  | _=>none
 | .index t x i=>
  match P.underlying t with
  | some .string=>some (.uS x i)
  | some (.array n e)=>
   match P.underlying e with
   | some d=>if cB P e&&(fw d||P.cellsOf e==1) then some (.uQ n (P.cellsOf e) (fw d) x i) else none
   | none=>none
  | _=>none
 | .indexAddr t x i=>
  match P.underlying t with
  | some (.slice e)=>if cB P e then some (.sM (P.cellsOf e) x i) else none
  | some (.array n e)=>if cB P e then some (.sL n (P.cellsOf e) x i) else none
  | _=>none
 | .fieldAddr t x f=>
  match P.underlying t with
  | some (.struct fs)=>
   match fs[f]? with
   | some fd=>if cB P fd.type&&P.cellsOf fd.type != 0 then some (.tx fd.offset x) else none
   | none=>none
  | _=>none
 | .field t x f=>
  match P.underlying t with
  | some (.struct fs)=>
   match fs[f]? with
   | some fd=>
    match P.underlying fd.type with
    | some d=>if cB P fd.type&&(fw d||P.cellsOf fd.type==1) then some (.tC (fw d) fd.offset (P.cellsOf fd.type) x) else none
    | none=>none
   | none=>none
  | _=>none
 | .slice t x lo hi mx=>
  match P.underlying t,mx with
  | some .string,none=>some (.rO x lo hi)
  | some (.slice e),none=>if cB P e then some (.rP e (P.cellsOf e) x lo hi) else none
  | _,_=>none
 | .nilCheck x=>some (.ve x)
 | .makeFunc (.func f) first captured=>some (.fn f first.toList captured.toList)
 | .extract x i=>some (.ext x i)
 | .build t parts=>
  match P.underlying t,zeroOf P t with
  | some (.struct fs),some z=>
   if fs.all λf=>cB P f.type then
    match parts.toList.mapM (m:=Option) λ(i,x)=>(placesOf P fs)[i]? |>.map λ(o,s)=>(o,s,x) with
    | some ps=>some (.build z ps)
    | none=>none
   else none
  | some (.array _ e),some z=>if cB P e then some (.build z (parts.toList.map λ(i,x)=>(i*P.cellsOf e,P.cellsOf e,x))) else none
  | _,_=>none
 | _=>none
end
section
theorem af.dX {ρ:ai} {k:IntKind} {n:Int} {v:Value} (h:af ρ (.int k n) v):v=.int k n:=by cases h;rfl
theorem af.me {ρ:ai} {b:Bool} {v:Value} (h:af ρ (.bool b) v):v=.bool b:=by cases h;rfl
theorem af.iT {ρ:ai} {s:ByteArray} {v:Value} (h:af ρ (.string s) v):v=.string s:=by cases h;rfl
theorem af.S (ρ:ai) (l:List UInt8):af ρ (S l) (S l):=.string _
theorem toList_eq (s:ByteArray):s.toList=bytes s:=by
 obtain ⟨⟨l⟩⟩:=s
 exact ByteArray.toList_mk l
theorem Em (s t:ByteArray):(s.toList==t.toList)=decide (bytes s=bytes t):=by
 rw [toList_eq,toList_eq]
 by_cases h:bytes s=bytes t <;> simp [h]
theorem oY (s:ByteArray):s.size=(bytes s).length:=by simp [bytes]
theorem Eg (s t:ByteArray):s++t=⟨(bytes s++bytes t).toArray⟩:=by
 apply ByteArray.ext
 apply ext'
 simp [bytes]
section
variable (P : Program) (w : World)
theorem Lj {op:BinOp} {k:IntKind} {a b:Int} {v:Value} (t:TypeId) (aQ:op≠ .shl) (HE:op≠ .shr) (h:gp op k a b=some v):
  (binOp op t (.int k a) (.int k b)).run P w=.ok v w:=by
 cases op <;> simp [gp] at h <;> simp at aQ HE <;> (first | subst h | (obtain ⟨hb,h⟩:=h;subst h)) <;>
  simp_all [binOp,Op.intArith,Op.intDiv,Op.intBits,Op.intCmp]
 ·rw [Bool.eq_iff_iff];simp
 ·rw [Bool.eq_iff_iff];simp
theorem Cq {op:BinOp} {k k':IntKind} {a b:Int} {v:Value} (t:TypeId) (aQ:op=.shl∨op=.shr) (h:mK op k a b=some v):
  (binOp op t (.int k a) (.int k' b)).run P w=.ok v w:=by
 unfold mK at h
 by_cases hb:b<0
 ·rw [if_pos hb] at h;cases h
 ·rw [if_neg hb] at h
  rcases aQ with rfl | rfl <;> simp at h <;> subst h <;> simp [binOp,Op.shift,hb]
theorem Lx {op:BinOp} {s s':ByteArray} {v:Value} (t:TypeId) (h:ly op (bytes s) (bytes s')=some v):
  (binOp op t (.string s) (.string s')).run P w=.ok v w:=by
 have e1:=Em s s'
 have hl:IntKind.i64.max=9223372036854775807:=rfl
 cases op <;> simp [ly] at h <;> (first | subst h | (obtain ⟨hb,h⟩:=h;subst h)) <;> simp only [binOp,Op.stringOp]
 all_goals first
  | (rw [e1];simp [toList_eq];done)
  | (simp [toList_eq];done)
  | skip
 ·unfold maxLen at hb
  rw [if_neg (by rw [hl,oY,oY];omega)]
  rw [Eg]
  rfl
theorem KY (op:BinOp) (t:TypeId) (x y:Operand) (k k':IntKind) (a b:Int):(eqGuard op t x y (.int k a) (.int k' b)).run P w=.ok () w:=by
 unfold eqGuard
 cases op <;> simp
theorem K0 (op:BinOp) (t:TypeId) (x y:Operand) (a b:ByteArray):(eqGuard op t x y (.string a) (.string b)).run P w=.ok () w:=by
 unfold eqGuard
 cases op <;> simp
theorem KX (op:BinOp) (t:TypeId) (x y:Operand) (a b:Bool):(eqGuard op t x y (.bool a) (.bool b)).run P w=.ok () w:=by
 unfold eqGuard
 cases op <;> simp
theorem KZ (op:BinOp) (t:TypeId) (x y:Operand) (a b:Option Addr) (n m c d:Nat):(eqGuard op t x y (.slice a n c) (.slice b m d)).run P w=.ok () w:=by
 unfold eqGuard
 cases op <;> simp
theorem K7 {ρ:ai} {op:BinOp} {x y x' y' v:Value} (t:TypeId) (ox oy:Operand) (h:au op x y=some v) (hx:af ρ x x') (hy:af ρ y y'):
  (do eqGuard op t ox oy x' y';binOp op t x' y':Sem Value).run P w=.ok v w/\af ρ v v:=by
 unfold au at h
 split at h
 ·rename_i k a k' b
  rw [hx.dX,hy.dX]
  have hv:(binOp op t (.int k a) (.int k' b)).run P w=.ok v w/\af ρ v v:=by
   split at h
   ·refine ⟨Cq P w t (.inl rfl) h,?_⟩
    unfold mK at h
    split at h <;> simp at h
    subst h;exact .int _ _
   ·refine ⟨Cq P w t (.inr rfl) h,?_⟩
    unfold mK at h
    split at h <;> simp at h
    subst h;exact .int _ _
   ·rename_i h1 h2
    split at h
    ·rename_i hk
     subst hk
     refine ⟨Lj P w t h1 h2 h,?_⟩
     cases op <;> simp [gp] at h <;> (first | subst h | (obtain ⟨_,h⟩:=h;subst h)) <;> first | exact .int _ _ | exact .bool _
    ·cases h
  simp only [Sem.run_bind,KY,Result.andThen_ok]
  exact hv
 ·rename_i s s'
  rw [hx.iT,hy.iT]
  simp only [Sem.run_bind,K0,Result.andThen_ok]
  refine ⟨Lx P w t h,?_⟩
  cases op <;> simp [ly] at h <;> (first | subst h | (obtain ⟨_,h⟩:=h;subst h)) <;> first | exact .string _ | exact .bool _
 ·cases h
theorem Cj {ρ:ai} {neg:Bool} {op:BinOp} {x y x' y' v:Value} (t:TypeId) (ox oy:Operand) (ht:P.underlying t=some .bool) (aQ:op=if neg then .neq else .eql)
  (h:qU neg x y=some v) (hx:af ρ x x') (hy:af ρ y y'):
  (do eqGuard op t ox oy x' y';binOp op t x' y':Sem Value).run P w=.ok v w/\af ρ v v:=by
 unfold qU at h
 split at h
 ·rename_i a b
  rw [hx.me,hy.me]
  simp only [Sem.run_bind,KX,Result.andThen_ok]
  simp at h
  subst h
  refine ⟨?_,.bool _⟩
  cases neg <;> simp at aQ <;> subst aQ
  ·exact run_eql_bool w t a b ht
  ·exact run_neq_bool w t a b ht
 ·cases h
theorem Ck {ρ:ai} {neg:Bool} {op:BinOp} {x y x' y' v:Value} {e:TypeId} (t:TypeId) (ox oy:Operand) (ht:P.underlying t=some (.slice e)) (aQ:op=if neg then .neq else .eql)
  (h:uH neg x y=some v) (hx:af ρ x x') (hy:af ρ y y'):
  (do eqGuard op t ox oy x' y';binOp op t x' y':Sem Value).run P w=.ok v w/\af ρ v v:=by
 unfold uH at h
 split at h
 ·rename_i a b ha hb
  split at h
  ·rename_i kQ
   simp at h
   subst h
   refine ⟨?_,.bool _⟩
   cases hx <;> simp [q6] at ha <;> cases hy <;> simp [q6] at hb <;> subst ha <;> subst hb <;> simp at kQ
   all_goals
    simp only [Sem.run_bind,KZ,Result.andThen_ok]
    cases neg <;> simp at aQ <;> subst aQ <;> simp only [Lib.run_eql_slice_nil w t e _ _ _ _ _ ht,run_neq_slice_nil_any w t e _ _ _ _ _ ht,run_eql_nil_slice w t e _ _ _ _ _ ht,run_neq_nil_slice w t e _ _ _ _ _ ht] <;> simp
  ·cases h
 ·cases h
theorem Ly {ρ:ai} {op:UnOp} {x x' v:Value} (h:eG op x=some v) (hx:af ρ x x'):(Op.unary op x').run P w=.ok v w/\af ρ v v:=by
 unfold eG at h
 split at h
 ·rw [hx.dX];simp at h;subst h;exact ⟨by simp [Op.unary,Op.intArith],.int _ _⟩
 ·rw [hx.me];simp at h;subst h;exact ⟨by simp [Op.unary],.bool _⟩
 ·rw [hx.dX];simp only [Option.some.injEq] at h;subst h;exact ⟨rfl,.int _ _⟩
 ·cases h
end
end
section
section
variable {P : Program} (w : World)
theorem IK {t:TypeId} (h:cB P t=true):∃i,P.info? t=some i:=by
 unfold cB at h
 exact Option.isSome_iff_exists.1 h
theorem gw {t:TypeId} (h:cB P t=true):(sizeOf t).run P w=.ok (P.cellsOf t) w:=by
 obtain ⟨i,hi⟩:=IK h
 exact run_sizeOf w hi
theorem we {t:TypeId} {d:TypeDesc} (h:P.underlying t=some d):(isAgg t).run P w=.ok (fw d) w:=by
 cases d <;> simp [isAgg,run_underlying h,fw]
theorem Jq {mx:Bool} {k:IntKind} {x:Int} {y v:Value} (h:max2 mx (.int k x) y=some v):∃k' b,y=.int k' b/\∃z,v=.int k z:=by
 unfold max2 at h
 split at h
 ·rename_i k2 x2 k3 y2 e
  cases e
  simp at h
  exact ⟨k3,y2,rfl,_,h.symm⟩
 ·cases h
theorem wg {ρ:ai} {mx:Bool}:∀{xs xs':List Value} {k:IntKind} {x:Int} {v:Value},xs.foldlM (max2 mx) (.int k x)=some v->aC ρ xs xs'->
  (xs'.foldlM (if mx then Builtin.max2 else Builtin.min2) (.int k x):Sem Value).run P w=.ok v w/\af ρ v v
 | [],xs',k,x,v,h,hs=>by
  cases hs
  simp at h
  subst h
  exact ⟨rfl,.int _ _⟩
 | y::xs,xs',k,x,v,h,hs=>by
  cases hs with
  | cons hy hs=>
   simp only [List.foldlM_cons,Option.bind_eq_bind,bind_eq_some_iff] at h
   obtain ⟨u,hu,h⟩:=h
   obtain ⟨k',b,rfl,z,rfl⟩:=Jq hu
   have ih:=wg (ρ:=ρ) h hs
   refine ⟨?_,ih.2⟩
   rw [hy.dX]
   simp only [List.foldlM_cons,Sem.run_bind]
   simp only [max2,Option.some.injEq,Value.int.injEq,true_and] at hu
   cases mx
   ·simp at hu⊢
    simp only [Builtin.min2,Sem.run_pure,Result.andThen_ok,hu]
    simpa using ih.1
   ·simp at hu⊢
    simp only [Builtin.max2,Sem.run_pure,Result.andThen_ok,gt_iff_lt,hu]
    simpa using ih.1
theorem Li {ρ:ai} {t:TypeId} {x i x' i' v:Value} (ht:P.underlying t=some .string) (h:du x i=some v) (hx:af ρ x x') (hi:af ρ i i'):
  (Instr.index t x' i').run P w=.ok v w/\af ρ v v:=by
 unfold du at h
 split at h
 ·rename_i s k j
  rw [hx.iT,hi.dX]
  split at h
  ·rename_i h0
   simp only [map_eq_some_iff] at h
   obtain ⟨b,hb,rfl⟩:=h
   refine ⟨?_,.int _ _⟩
   have eT:s[j.toNat]?=some b:=by
    have hlt:=(bw hb).1
    have:j.toNat<s.size:=by rw [oY];exact hlt
    rw [getElem?_pos s j.toNat this]
    have e:=(bw hb).2
    simp only [bytes,Array.getElem_toList] at e
    rw [<-e]
    rfl
   simp [Instr.index,asIntOf,run_underlying ht,h0,eT]
  ·cases h
 ·cases h
theorem Iz {ρ:ai} {agg:Bool} {off sz:Nat} {cs:List Value} {cU:Array Value} {v:Value} (h:dv agg off sz cs=some v) (hs:aC ρ cs cU.toList) (h1:∀x∈cs,cL x=true):
  ∃v',(if agg then some (.agg (cU.extract off (off+sz))) else cU[off]?)=some v'/\af ρ v v':=by
 unfold dv at h
 cases agg
 ·simp at h⊢
  obtain ⟨y,hy,hr⟩:=hs.get h
  exact ⟨y,by simpa using hy,hr⟩
 ·simp at h⊢
  obtain ⟨hl,rfl⟩:=h
  have:=((hs.drop off).take sz)
  have e:(cU.extract off (off+sz))=((cU.toList.drop off).take sz).toArray:=by
   apply ext'
   simp [List.take_drop]
  rw [e]
  exact .nr this (λx hx=>h1 x (List.mem_of_mem_drop (List.mem_of_mem_take hx)))
theorem Cp {ρ:ai} {t:TypeId} {d:TypeDesc} {off:Nat} {cs:List Value} {cU:Array Value} {v:Value} (ht:P.underlying t=some d) (hk:cB P t=true)
  (h:dv (fw d) off (P.cellsOf t) cs=some v) (hs:aC ρ cs cU.toList) (h1:∀x∈cs,cL x=true):
  ∃v',(part t cU off).run P w=.ok v' w/\af ρ v v':=by
 obtain ⟨v',hv,hr⟩:=Iz h hs h1
 refine ⟨v',?_,hr⟩
 unfold part
 simp only [Sem.run_bind,we w ht,Result.andThen_ok]
 cases hd:fw d
 ·rw [hd] at hv
  simp at hv⊢
  rw [hv]
  rfl
 ·rw [hd] at hv
  simp at hv⊢
  simp only [gw w hk,Result.andThen_ok,hv]
theorem af.xG {ρ:ai} {cs:Array Value} {x':Value} (h:af ρ (.agg cs) x'):∃cU,x'=.agg cU/\aC ρ cs.toList cU.toList/\∀x∈cs.toList,cL x=true:=by
 cases h with
 | agg hs h1 h=>exact ⟨_,rfl,aC.kr hs h,h1⟩
theorem Lh {ρ:ai} {t e:TypeId} {d:TypeDesc} {n:Nat} {x i x' i' v:Value} (ht:P.underlying t=some (.array n e)) (he:P.underlying e=some d) (hk:cB P e=true)
  (h:uJ n (P.cellsOf e) (fw d) x i=some v) (hx:af ρ x x') (hi:af ρ i i'):
  ∃v',(Instr.index t x' i').run P w=.ok v' w/\af ρ v v':=by
 unfold uJ at h
 split at h
 ·rename_i cs k j
  obtain ⟨cU,rfl,hs,h1⟩:=hx.xG
  rw [hi.dX]
  split at h
  ·rename_i h0
   obtain ⟨v',hr,hv⟩:=Cp w he hk h hs h1
   refine ⟨v',?_,hv⟩
   simp [Instr.index,asIntOf,run_underlying ht,h0,gw w hk,hr]
  ·cases h
 ·cases h
theorem Lg {ρ:ai} {t:TypeId} {fs:Array Field} {f:Nat} {fd:Field} {d:TypeDesc} {x x' v:Value} (ht:P.underlying t=some (.struct fs)) (hf:fs[f]?=some fd) (he:P.underlying fd.type=some d)
  (hk:cB P fd.type=true) (h:uI (fw d) fd.offset (P.cellsOf fd.type) x=some v) (hx:af ρ x x'):
  ∃v',(Instr.field t x' f).run P w=.ok v' w/\af ρ v v':=by
 unfold uI at h
 split at h
 ·rename_i cs
  obtain ⟨cU,rfl,hs,h1⟩:=hx.xG
  obtain ⟨v',hr,hv⟩:=Cp w he hk h hs h1
  refine ⟨v',?_,hv⟩
  simp [Instr.field,run_underlying ht,hf,asAgg,hr]
 ·cases h
theorem K3 {ρ:ai} {t e:TypeId} {x i x' i' v:Value} (ht:P.underlying t=some (.slice e)) (hk:cB P e=true)
  (h:bQ (P.cellsOf e) x i=some v) (hx:af ρ x x') (hi:af ρ i i'):
  ∃v',(Instr.indexAt t x' i').run P w=.ok v' w/\af ρ v v':=by
 unfold bQ at h
 split at h
 ·rename_i id o e' n c k j
  split at h
  ·rename_i h0
   simp at h
   subst h
   rw [hi.dX]
   cases hx with
   | slice hr ho hn hc hb=>
    rename_i o' c' r
    have bg:o'=r.sh+o:=by
     rcases ho with ho | ⟨h1,h2,h3⟩
     ·exact ho
     ·omega
    subst bg
    refine ⟨_,?_,af.ptr hr⟩
    simp [Instr.indexAt,asIntOf,run_underlying ht,h0,gw w hk,Addr.add_lit,Nat.add_assoc]
  ·cases h
 ·cases h
theorem af.oS {ρ:ai} {id o:Nat} {x':Value} (h:af ρ (.pointer (some ⟨id,o,none⟩)) x'):∃r,ρ id=some r/\x'=.pointer (some ⟨r.aD,r.sh+o,none⟩):=by
 cases h with
 | ptr hr=>exact ⟨_,hr,rfl⟩
theorem K1 {ρ:ai} {t e:TypeId} {n:Nat} {x i x' i' v:Value} (ht:P.underlying t=some (.array n e)) (hk:cB P e=true)
  (h:eZ n (P.cellsOf e) x i=some v) (hx:af ρ x x') (hi:af ρ i i'):
  ∃v',(Instr.indexAt t x' i').run P w=.ok v' w/\af ρ v v':=by
 unfold eZ at h
 split at h
 ·rename_i id o k j
  split at h
  ·rename_i h0
   simp at h
   subst h
   rw [hi.dX]
   obtain ⟨r,hr,rfl⟩:=hx.oS
   refine ⟨_,?_,af.ptr hr⟩
   simp [Instr.indexAt,asIntOf,run_underlying ht,h0,gw w hk,Instr.sureAddr,Addr.add_lit,Nat.add_assoc]
  ·cases h
 ·cases h
theorem Lf {ρ:ai} {t:TypeId} {fs:Array Field} {f:Nat} {fd:Field} {x x' v:Value} (ht:P.underlying t=some (.struct fs)) (hf:fs[f]?=some fd) (hk:cB P fd.type=true)
  (hz:P.cellsOf fd.type≠0) (h:cA fd.offset x=some v) (hx:af ρ x x'):
  ∃v',(Instr.fieldAt t x' f).run P w=.ok v' w/\af ρ v v':=by
 unfold cA at h
 split at h
 ·rename_i id o
  simp at h
  subst h
  obtain ⟨r,hr,rfl⟩:=hx.oS
  refine ⟨_,?_,af.ptr hr⟩
  simp [Instr.fieldAt,run_underlying ht,hf,Instr.sureAddr,fieldPlace,gw w hk,hz,Addr.add_lit,Nat.add_assoc]
 ·cases h
theorem AB {ρ:ai} {v v':Value} {n:Nat} (h:lF v=some n) (hv:af ρ v v'):∃k i,v'=.int k i/\0<=i/\i.toNat=n:=by
 unfold lF at h
 split at h
 ·rename_i k i
  rw [hv.dX]
  split at h
  ·rename_i h0
   simp at h
   exact ⟨k,i,rfl,h0,h⟩
  ·cases h
 ·cases h
def kz (ρ:ai):Option Value->Option Value->Prop
 | none,none=>True
 | some a,some b=>af ρ a b
 | _,_=>False
theorem wa {ρ:ai} {n cap:Nat} {isSlice:Bool} {lo hi fM dd:Option Value} {l h:Nat} (he:kg n lo hi=some (l,h)) (hc:n<=cap) (bk:kz ρ lo fM) (j8:kz ρ hi dd):
  (Instr.sliceBounds isSlice n cap fM dd none).run P w=.ok (l,h,cap) w/\l<=h/\h<=n:=by
 unfold kg at he
 split at he
 ·rename_i l1 h1 hl hh
  split at he
  ·rename_i hb
   simp at he
   obtain ⟨rfl,rfl⟩:=he
   refine ⟨?_,hb.1,hb.2⟩
   have bh:∀(v:Value),dd=some v->∃k i,v=.int k i/\0<=i/\i.toNat=h1:=by
    intro v hv
    subst hv
    cases hi with
    | none=>exact j8.elim
    | some u=>exact AB hh j8
   have Ei:dd=none->h1=n:=by
    intro hv
    subst hv
    cases hi with
    | none=>simpa using hh.symm
    | some u=>exact j8.elim
   have bl:∀(v:Value),fM=some v->∃k i,v=.int k i/\0<=i/\i.toNat=l1:=by
    intro v hv
    subst hv
    cases lo with
    | none=>exact bk.elim
    | some u=>exact AB hl bk
   have xK:fM=none->l1=0:=by
    intro hv
    subst hv
    cases lo with
    | none=>simpa using hl.symm
    | some u=>exact bk.elim
   unfold Instr.sliceBounds
   cases dd with
   | none=>
    obtain rfl:=Ei rfl
    cases fM with
    | none=>obtain rfl:=xK rfl;simp
    | some v=>
     obtain ⟨k,i,rfl,h0,rfl⟩:=bl v rfl
     have:i<=(h1:Int):=by omega
     simp [Instr.sliceBound,asIntOf,h0,this]
   | some u=>
    obtain ⟨k,i,rfl,h0,rfl⟩:=bh u rfl
    have qI:i<=(cap:Int):=by omega
    cases fM with
    | none=>obtain rfl:=xK rfl;simp [Instr.sliceBound,asIntOf,h0,qI]
    | some v=>
     obtain ⟨k2,j,rfl,h2,rfl⟩:=bl v rfl
     have:j<=i:=by omega
     simp [Instr.sliceBound,asIntOf,h0,qI,h2,this,Int.toNat_of_nonneg h0]
  ·cases he
 ·cases he
theorem Gn (s:ByteArray) (l h:Nat):s.extract l h=⟨(((bytes s).take h).drop l).toArray⟩:=by
 apply ByteArray.ext
 apply ext'
 simp only [bytes,ByteArray.data_extract,Array.toList_extract,List.drop_take]
theorem Lu {ρ:ai} {t:TypeId} {x x' v:Value} {lo hi fM dd:Option Value} (ht:P.underlying t=some .string) (h:iQ x lo hi=some v) (hx:af ρ x x')
  (bk:kz ρ lo fM) (j8:kz ρ hi dd):(Instr.sliceAt t x' fM dd none).run P w=.ok v w/\af ρ v v:=by
 unfold iQ at h
 split at h
 ·rename_i s
  rw [hx.iT]
  simp only [map_eq_some_iff,Prod.exists] at h
  obtain ⟨l,u,hb,rfl⟩:=h
  obtain ⟨hr,h1,h2⟩:=wa (P:=P) w (isSlice:=false) hb (le_refl _) bk j8
  refine ⟨?_,af.S _ _⟩
  rw [<-oY] at hr
  simp [Instr.sliceAt,Instr.slice,run_underlying ht,hr,S,Gn]
 ·cases h
theorem Lv {ρ:ai} {t e:TypeId} {x x' v:Value} {lo hi fM dd:Option Value} (hH:∀i r,ρ i=some r->r.aL=P.cellsOf r.elem) (ht:P.underlying t=some (.slice e)) (hk:cB P e=true)
  (h:lx e (P.cellsOf e) x lo hi=some v) (hx:af ρ x x') (bk:kz ρ lo fM) (j8:kz ρ hi dd):
  ∃v',(Instr.sliceAt t x' fM dd none).run P w=.ok v' w/\af ρ v v':=by
 unfold lx at h
 split at h
 ·simp only [map_eq_some_iff,Prod.exists] at h
  obtain ⟨l,u,hb,rfl⟩:=h
  obtain ⟨hr,h1,h2⟩:=wa (P:=P) w (isSlice:=true) hb (le_refl _) bk j8
  cases hx
  refine ⟨_,?_,.gv⟩
  obtain rfl:u=0:=by omega
  obtain rfl:l=0:=by omega
  simp [Instr.sliceAt,Instr.slice,run_underlying ht,hr,gw w hk]
 ·rename_i id o e' n c
  split at h
  ·rename_i tV
   subst tV
   simp only [map_eq_some_iff,Prod.exists] at h
   obtain ⟨l,u,hb,rfl⟩:=h
   cases hx with
   | slice hr ho hn hc mw=>
    rename_i o' c' r
    obtain ⟨cf,h1,h2⟩:=wa (P:=P) w (isSlice:=true) hb hn bk j8
    have dU:=hH _ _ hr
    by_cases bL:c'=l
    ·refine ⟨.slice (some ⟨r.aD,o',none⟩) (u-l) (c' -l),?_,?_⟩
     ·rw [bL] at cf⊢
      simp [Instr.sliceAt,Instr.slice,run_underlying ht,cf,gw w hk]
     ·refine af.slice hr ?_ (by omega) (by omega) ?_
      ·rcases Nat.eq_zero_or_pos (l*P.cellsOf r.elem) with hz | hz
       ·rw [hz]
        rcases ho with ho | ⟨q1,q2,q3⟩
        ·exact .inl (by omega)
        ·exact .inr ⟨by omega,by omega,by omega⟩
       ·exact .inr ⟨by omega,by omega,by omega⟩
      ·have:c' -l=0:=by omega
       rw [this]
       have:o'<=o'+c'*r.aL:=Nat.le_add_right _ _
       omega
    ·refine ⟨.slice (some ⟨r.aD,o'+l*P.cellsOf r.elem,none⟩) (u-l) (c' -l),?_,?_⟩
     ·simp [Instr.sliceAt,Instr.slice,run_underlying ht,cf,gw w hk,bL,Addr.add_lit]
     ·refine af.slice hr ?_ (by omega) (by omega) ?_
      ·rcases ho with ho | ⟨q1,q2,q3⟩
       ·exact .inl (by omega)
       ·exfalso;omega
      ·rw [<-dU]
       have e1:l*r.aL+(c' -l)*r.aL=c'*r.aL:=by rw [<-add_mul];congr 1;omega
       omega
  ·cases h
 ·cases h
theorem Ls {ρ:ai} {o:Oper} {ox:Operand} {g':Operand->Value} {x v:Value} (ho:o.op=.nilCheck ox) (h:kh x=some v) (hx:af ρ x (g' ox)):
  ∃v',(execOp g' o).run P w=.ok (.value v') w/\af ρ v v':=by
 unfold kh at h
 split at h
 ·simp at h
  subst h
  generalize hy:g' ox=y at hx
  have b0:=hx
  cases hx with
  | ptr hr=>
   refine ⟨_,?_,b0⟩
   simp [execOp,ho,hy]
 ·simp at h
  subst h
  generalize hy:g' ox=y at hx
  have b0:=hx
  cases hx with
  | func f a b c d=>
   refine ⟨_,?_,b0⟩
   simp [execOp,ho,hy]
  | yield hr=>
   refine ⟨_,?_,b0⟩
   simp [execOp,ho,hy]
 ·cases h
theorem Le {ρ:ai} {x x' v:Value} {i:Nat} (h:gN i x=some v) (hx:af ρ x x'):∃v',(Instr.extract x' i).run P w=.ok v' w/\af ρ v v':=by
 unfold gN at h
 split at h
 ·cases hx with
  | tuple hs hr=>
   obtain ⟨y,hy,hv⟩:=(aC.kr hs hr).get (k:=i) (x:=v) (by simpa using h)
   refine ⟨y,?_,hv⟩
   simp only [getElem?_toList] at hy
   simp [Instr.extract,hy]
 ·cases h
end
theorem aC.lE {ρ:ai} {g g':Operand->Value} (hg:∀x,di x=true->af ρ (g x) (g' x)):∀{xs:List Operand},xs.all di=true->aC ρ (xs.map g) (xs.map g')
 | [],_=>.nil
 | x::xs,h=>by
  simp at h
  exact .cons (hg x h.1) (aC.lE hg (by simpa using h.2))
end
section
theorem LF (l:List Value) (o:Nat) (v:Value) (vs:List Value) (h:o<l.length):setAt (l.set o v) (o+1) vs=setAt l o (v::vs):=by
 have e:l.set o v=l.take o++v::l.drop (o+1):=by rw [List.set_eq_take_append_cons_drop,if_pos h]
 have hl:(l.take o).length=o:=by simp;omega
 unfold setAt
 have e1:(l.set o v).take (o+1)=l.take o++[v]:=by
  rw [e,List.take_append,hl,List.take_of_length_le (by omega)]
  simp
 have e2:(l.set o v).drop (o+1+vs.length)=l.drop (o+(v::vs).length):=by
  rw [List.drop_set,if_pos (by omega)]
  congr 1
  simp
  omega
 rw [e1,e2]
 simp
theorem LI (vs:List Value):∀(off i:Nat) (cs:Array Value),off+i+vs.length<=cs.size->
  ((vs.zipIdx i).foldl (λcs (c,j)=>cs.setIfInBounds (off+j) c) cs).toList=setAt cs.toList (off+i) vs:=by
 induction vs with
 | nil=>intro off i cs h;simp [setAt]
 | cons v vs ih=>
  intro off i cs h
  simp only [List.zipIdx_cons,List.foldl_cons]
  rw [ih off (i+1) _ (by simp at h⊢;omega)]
  rw [Array.toList_setIfInBounds,show off+(i+1)=off+i+1 by omega]
  exact LF _ _ _ _ (by simp at h⊢;omega)
theorem LH {ρ:ai} {xs ys:List Value} (h:aC ρ xs ys) {o:Nat} {vs dm:List Value} (hv:aC ρ vs dm):aC ρ (setAt xs o vs) (setAt ys o dm):=by
 unfold setAt
 rw [<-hv.length]
 exact ((h.take o).append hv).append (h.drop _)
theorem LG {xs:List Value} {o:Nat} {vs:List Value} {p:Value->Prop} (h:∀x∈xs,p x) (hv:∀x∈vs,p x):∀x∈setAt xs o vs,p x:=by
 intro x hx
 unfold setAt at hx
 simp only [List.mem_append] at hx
 rcases hx with (hx | hx) | hx
 ·exact h x (List.mem_of_mem_take hx)
 ·exact hv x hx
 ·exact h x (List.mem_of_mem_drop hx)
inductive iZ (ρ:ai) (place:Nat->Option (Nat×Nat)):List (Nat×Nat×Value)->List (Nat×Value)->Prop
 | nil:iZ ρ place [] []
 | cons {o s i:Nat} {v v':Value} {ps:List (Nat×Nat×Value)} {qs:List (Nat×Value)}:place i=some (o,s)->af ρ v v'->iZ ρ place ps qs->iZ ρ place ((o,s,v)::ps) ((i,v')::qs)
theorem tz {ρ:ai} {place:Nat->Option (Nat×Nat)} {ps:List (Nat×Nat×Value)} {qs:List (Nat×Value)} (hp:iZ ρ place ps qs):
  ∀{xs cs:List Value} {ys:Array Value},gE xs ps=some cs->aC ρ xs ys.toList->(∀x∈xs,cL x=true)->
   ∃cU,Instr.fill place ys qs=some cU/\aC ρ cs cU.toList/\(∀x∈cs,cL x=true)/\cs.length=xs.length:=by
 induction hp with
 | nil=>
  intro xs cs ys h hs h1
  simp [gE] at h
  subst h
  exact ⟨ys,by simp [Instr.fill],hs,h1,rfl⟩
 | cons hpl hv _ ih=>
  rename_i o s i v v' ps qs _
  intro xs cs ys h hs h1
  simp only [gE] at h
  split at h
  ·rename_i hc
   obtain ⟨ht,hl,ho⟩:=hc
   have mI:=hv.cells ht
   have iN:v'.cells.size=s:=by rw [<-hl,mI.length];simp [aZ]
   have ft:o+v'.cells.size<=ys.size:=by have:=hs.length;simp at this;omega
   have nT:=LI (aZ v') o 0 ys (by simp [aZ];omega)
   simp only [Nat.add_zero] at nT
   have j2:v'.cells.zipIdx.foldl (λcs x=>cs.setIfInBounds (o+x.2) x.1) ys=(setAt ys.toList o (aZ v')).toArray:=by
    apply ext'
    rw [<-nT,<-Array.foldl_toList]
    simp [aZ,Array.toList_zipIdx]
   obtain ⟨cU,hf,hr,h2,hlen⟩:=ih (ys:=(setAt ys.toList o (aZ v')).toArray) h (by simpa using LH hs mI) (LG h1 (hv.qf ht))
   refine ⟨cU,?_,hr,h2,?_⟩
   ·unfold Instr.fill
    simp only [hpl]
    rw [if_neg (by simp [iN];omega)]
    rw [<-hf,<-j2]
   ·rw [hlen]
    simp [setAt]
    omega
  ·cases h
theorem nf {P:Program} {t:TypeId} {zs:List Value} (h:zeroOf P t=some zs):
  ∃i z,P.info? t=some i/\i.zero=some z/\zs=aZ z/\dM z=true/\(∀x∈zs,ez x=true/\cL x=true)/\zs.length=i.size:=by
 unfold zeroOf at h
 split at h
 ·rename_i i hi
  split at h
  ·rename_i z hz
   split at h
   ·rename_i hc
    simp at h
    subst h
    simp only [and_eq_true,all_eq_true,mf,beq_iff_eq] at hc
    exact ⟨i,z,hi,hz,rfl,hc.1.1,λx hx=>hc.1.2 x hx,hc.2⟩
   ·cases h
  ·cases h
 ·cases h
theorem aC.closed {ρ:ai}:∀{zs:List Value},(∀x∈zs,ez x=true)->aC ρ zs zs
 | [],_=>.nil
 | x::zs,h=>.cons (ez.rel (h x (by simp))) (aC.closed λy hy=>h y (by simp [hy]))
section
variable {P : Program} (w : World)
theorem lL {t:TypeId} {i:TypeInfo} {z:Value} (hi:P.info? t=some i) (hz:i.zero=some z):(zeroValue t).run P w=.ok z w:=by
 simp [zeroValue,typeInfo,hi,hz]
theorem Cs:∀(fs:List Field),(∀f∈fs,cB P f.type=true)->
  (fs.mapM (m:=Sem) λf=>do pure (f.offset,<-sizeOf f.type)).run P w=.ok (fs.map λf=>(f.offset,P.cellsOf f.type)) w
 | [],_=>rfl
 | f::fs,h=>by
  have ih:=Cs fs (λg hg=>h g (by simp [hg]))
  simp only [List.mapM_cons,Sem.run_bind,gw w (h f (by simp)),Result.andThen_ok,Sem.run_pure,ih,List.map_cons]
end
end
section
section
variable {P : Program} (w : World) {ρ : ai} {g g' : Operand -> Value}
theorem ri (hg:∀x,di x=true->af ρ (g x) (g' x)) (l:Option Operand) (h:l.toArray.all di=true):kz ρ (l.map g) (l.map g'):=by
 cases l with
 | none=>trivial
 | some x=>exact hg x (by simpa using h)
theorem BX (hg:∀x,di x=true->af ρ (g x) (g' x)) (place:Nat->Option (Nat×Nat)):∀(qs:List (Nat×Operand)) (ps:List (Nat×Nat×Operand)),
  qs.mapM (m:=Option) (λ(i,x)=>(place i).map λ(o,s)=>(o,s,x))=some ps->(∀q∈qs,di q.2=true)->
  iZ ρ place (ps.map λ(o,s,x)=>(o,s,g x)) (qs.map λ(i,x)=>(i,g' x))
 | [],ps,h,_=>by
  simp at h
  subst h
  exact .nil
 | (i,x)::qs,ps,h,hq=>by
  simp only [List.mapM_cons,Option.bind_eq_bind,bind_eq_some_iff] at h
  obtain ⟨p,hp,JH,hps,h⟩:=h
  simp at h
  subst h
  simp only [map_eq_some_iff] at hp
  obtain ⟨⟨o,s⟩,hpl,rfl⟩:=hp
  exact .cons hpl (hg x (hq (i,x) (by simp))) (BX hg place qs JH hps λq hm=>hq q (by simp [hm]))
theorem vQ (hg:∀x,di x=true->af ρ (g x) (g' x)) (pl:Nat->Nat×Nat):∀(qs:List (Nat×Operand)),(∀q∈qs,di q.2=true)->
  iZ ρ (λi=>some (pl i)) ((qs.map λ(i,x)=>((pl i).1,(pl i).2,x)).map λ(o,s,x)=>(o,s,g x)) (qs.map λ(i,x)=>(i,g' x))
 | [],_=>.nil
 | (i,x)::qs,hq=>.cons rfl (hg x (hq (i,x) (by simp))) (vQ hg pl qs λq hm=>hq q (by simp [hm]))
theorem La {t:TypeId} {fs:Array Field} {zs:List Value} {ps:List (Nat×Nat×Value)} {qs:Array (Nat×Value)} {v:Value} (ht:P.underlying t=some (.struct fs)) (hz:zeroOf P t=some zs)
  (hk:∀f∈fs.toList,cB P f.type=true) (hp:iZ ρ ((placesOf P fs)[·]?) ps qs.toList) (h:lu zs ps=some v):
  ∃v',(Instr.build t qs).run P w=.ok v' w/\af ρ v v':=by
 obtain ⟨i,z,hi,gn,rfl,gM,bL,hlen⟩:=nf hz
 simp only [lu,map_eq_some_iff] at h
 obtain ⟨cs,hf,rfl⟩:=h
 obtain ⟨cU,mB,hr,h1,_⟩:=tz (ys:=z.cells) hp hf (aC.closed λx hx=>(bL x hx).1) (λx hx=>(bL x hx).2)
 refine ⟨.agg cU,?_,?_⟩
 ·have hm:=Cs (P:=P) w fs.toList hk
  have ct:(fs.mapM (m:=Sem) λf=>do pure (f.offset,<-sizeOf f.type)).run P w=.ok (fs.toList.map λf=>(f.offset,P.cellsOf f.type)).toArray w:=by
   rw [Array.mapM_eq_mapM_toList]
   simp only [Sem.run_map,hm,Result.andThen_ok]
  have hpl:(λ(x:Nat)=>((fs.toList.map λf=>(f.offset,P.cellsOf f.type)).toArray)[x]?)=((placesOf P fs)[·]?):=by
   funext x
   simp [placesOf]
  simp only [Instr.build,Sem.run_bind,lL w hi gn,Result.andThen_ok,run_underlying ht,ct]
  rw [hpl,mB]
  simp
 ·have:=af.nr (ρ:=ρ) hr h1
  simpa using this
theorem K9 {t e:TypeId} {n:Nat} {zs:List Value} {ps:List (Nat×Nat×Value)} {qs:Array (Nat×Value)} {v:Value} (ht:P.underlying t=some (.array n e)) (hz:zeroOf P t=some zs)
  (hk:cB P e=true) (hp:iZ ρ (λi=>some (i*P.cellsOf e,P.cellsOf e)) ps qs.toList) (h:lu zs ps=some v):
  ∃v',(Instr.build t qs).run P w=.ok v' w/\af ρ v v':=by
 obtain ⟨i,z,hi,gn,rfl,gM,bL,hlen⟩:=nf hz
 simp only [lu,map_eq_some_iff] at h
 obtain ⟨cs,hf,rfl⟩:=h
 obtain ⟨cU,mB,hr,h1,_⟩:=tz (ys:=z.cells) hp hf (aC.closed λx hx=>(bL x hx).1) (λx hx=>(bL x hx).2)
 refine ⟨.agg cU,?_,?_⟩
 ·simp only [Instr.build,Sem.run_bind,lL w hi gn,Result.andThen_ok,run_underlying ht,gw w hk]
  rw [mB]
  simp
 ·have:=af.nr (ρ:=ρ) hr h1
  simpa using this
theorem Gq {fn:Func} (h:fn.name= "internal/bytealg.IndexByteString"):Extern.find fn=some Extern.BytealgIndexByte.indexByte:=by
 unfold Extern.find
 rw [h]
 rfl
theorem Gm {f:FuncId} (h:tv P f=true):∃fn,P.funcs[f]?=some fn/\(fn.name== "runtime.NumGoroutine")=false/\fn.body.isNone=true/\Extern.findNext fn=none/\Extern.find fn=some Extern.BytealgIndexByte.indexByte:=by
 unfold tv at h
 split at h
 ·rename_i fn hf
  simp only [and_eq_true,beq_iff_eq] at h
  obtain ⟨⟨h1,h2⟩,h3⟩:=h
  exact ⟨fn,hf,by rw [h2];decide,h1,by simpa using h3,Gq h2⟩
 ·cases h
theorem JI {o:Oper} {po:ga} (hc:cJ P o.op=some po) (ak:o.op.operands.all di=true) (hH:∀i r,ρ i=some r->r.aL=P.cellsOf r.elem)
  (hg:∀x,di x=true->af ρ (g x) (g' x)) {v:Value} (hi:cP po g=some v):∃v',(execOp g' o).run P w=.ok (.value v') w/\af ρ v v':=by
 cases ho:o.op with
 | move x=>
  rw [ho] at hc ak
  simp [cJ] at hc;subst hc
  simp [Op.operands] at ak
  simp [cP] at hi;subst hi
  exact ⟨g' x,by simp [execOp,ho],hg x ak⟩
 | assign x=>
  rw [ho] at hc ak
  simp [cJ] at hc;subst hc
  simp [Op.operands] at ak
  simp [cP] at hi;subst hi
  exact ⟨g' x,by simp [execOp,ho],hg x ak⟩
 | pick c a b=>
  rw [ho] at hc ak
  simp [cJ] at hc;subst hc
  simp [Op.operands] at ak
  simp only [cP,bJ] at hi
  split at hi
  ·rename_i t ht
   have zw:=hg c ak.1
   rw [ht] at zw
   simp at hi;subst hi
   refine ⟨if t then g' a else g' b,by simp [execOp,ho,zw.me,asBool],?_⟩
   cases t
   ·simpa using hg b ak.2.2
   ·simpa using hg a ak.2.1
  ·cases hi
 | binOp op t x y yt=>
  rw [ho] at hc ak
  simp [Op.operands] at ak
  have hx:=hg x ak.1
  have hy:=hg y ak.2
  simp only [cJ] at hc
  have fin:∀v',(do eqGuard op t x y (g' x) (g' y);binOp op t (g' x) (g' y):Sem Value).run P w=.ok v' w->(execOp g' o).run P w=.ok (.value v') w:=by
   intro v' h
   simp only [execOp,ho]
   simp only [Sem.run_bind] at h⊢
   rw [h]
   rfl
  split at hc
  ·simp at hc;subst hc
   obtain ⟨h1,h2⟩:=Cj P w (op:=.eql) t x y ‹_› rfl hi hx hy
   exact ⟨v,fin v h1,h2⟩
  ·simp at hc;subst hc
   obtain ⟨h1,h2⟩:=Cj P w (op:=.neq) t x y ‹_› rfl hi hx hy
   exact ⟨v,fin v h1,h2⟩
  ·simp at hc;subst hc
   obtain ⟨h1,h2⟩:=Ck P w (op:=.eql) t x y ‹_› rfl hi hx hy
   exact ⟨v,fin v h1,h2⟩
  ·simp at hc;subst hc
   obtain ⟨h1,h2⟩:=Ck P w (op:=.neq) t x y ‹_› rfl hi hx hy
   exact ⟨v,fin v h1,h2⟩
  ·simp at hc;subst hc
   obtain ⟨h1,h2⟩:=K7 P w t x y hi hx hy
   exact ⟨v,fin v h1,h2⟩
 | unOp op t x=>
  rw [ho] at hc ak
  simp [cJ] at hc;subst hc
  simp [Op.operands] at ak
  obtain ⟨h1,h2⟩:=Ly P w hi (hg x ak)
  exact ⟨v,by simp [execOp,ho,h1],h2⟩
 | convert s d x=>
  rw [ho] at hc ak
  simp [Op.operands] at ak
  simp only [cJ] at hc
  split at hc
  ·rename_i k0 k hs hd
   simp at hc;subst hc
   simp only [cP,jw] at hi
   split at hi
   ·rename_i k1 n hx
    have:=hg x ak
    rw [hx] at this
    simp at hi;subst hi
    refine ⟨_,?_,.int _ _⟩
    simp [execOp,ho,this.dX,convert,run_underlying hs,run_underlying hd,Conv.intToInt]
   ·cases hi
  ·rename_i hs hd
   simp at hc;subst hc
   simp only [cP,zT] at hi
   split at hi
   ·rename_i z hx
    have:=hg x ak
    rw [hx] at this
    simp at hi;subst hi
    refine ⟨_,?_,.string _⟩
    simp [execOp,ho,this.iT,convert,run_underlying hs,run_underlying hd]
   ·cases hi
  ·rename_i k0 hs hd
   simp at hc;subst hc
   simp only [cP,oE] at hi
   split at hi
   ·rename_i k1 n hx
    have:=hg x ak
    rw [hx] at this
    simp at hi;subst hi
    refine ⟨_,?_,.string _⟩
    simp [execOp,ho,this.dX,convert,run_underlying hs,run_underlying hd,Conv.intToString]
   ·cases hi
  ·cases hc
 | indexAddr t x i=>
  rw [ho] at hc ak
  simp [Op.operands] at ak
  simp only [cJ] at hc
  split at hc
  ·rename_i e ht
   split at hc
   ·rename_i hk
    simp at hc;subst hc
    obtain ⟨v',h1,h2⟩:=K3 w ht hk hi (hg x ak.1) (hg i ak.2)
    exact ⟨v',by simp [execOp,ho,h1],h2⟩
   ·cases hc
  ·rename_i n e ht
   split at hc
   ·rename_i hk
    simp at hc;subst hc
    obtain ⟨v',h1,h2⟩:=K1 w ht hk hi (hg x ak.1) (hg i ak.2)
    exact ⟨v',by simp [execOp,ho,h1],h2⟩
   ·cases hc
  ·cases hc
 | index t x i=>
  rw [ho] at hc ak
  simp [Op.operands] at ak
  simp only [cJ] at hc
  split at hc
  ·rename_i ht
   simp at hc;subst hc
   obtain ⟨h1,h2⟩:=Li w ht hi (hg x ak.1) (hg i ak.2)
   exact ⟨v,by simp [execOp,ho,h1],h2⟩
  ·rename_i n e ht
   split at hc
   ·rename_i d hd
    split at hc
    ·rename_i hk
     simp at hc;subst hc
     simp only [and_eq_true] at hk
     obtain ⟨v',h1,h2⟩:=Lh w ht hd hk.1 hi (hg x ak.1) (hg i ak.2)
     exact ⟨v',by simp [execOp,ho,h1],h2⟩
    ·cases hc
   ·cases hc
  ·cases hc
 | fieldAddr t x f=>
  rw [ho] at hc ak
  simp [Op.operands] at ak
  simp only [cJ] at hc
  split at hc
  ·rename_i fs ht
   split at hc
   ·rename_i fd hf
    split at hc
    ·rename_i hk
     simp at hc;subst hc
     simp only [and_eq_true,bne_iff_ne] at hk
     obtain ⟨v',h1,h2⟩:=Lf w ht hf hk.1 hk.2 hi (hg x ak)
     exact ⟨v',by simp [execOp,ho,h1],h2⟩
    ·cases hc
   ·cases hc
  ·cases hc
 | field t x f=>
  rw [ho] at hc ak
  simp [Op.operands] at ak
  simp only [cJ] at hc
  split at hc
  ·rename_i fs ht
   split at hc
   ·rename_i fd hf
    split at hc
    ·rename_i d hd
     split at hc
     ·rename_i hk
      simp at hc;subst hc
      simp only [and_eq_true] at hk
      obtain ⟨v',h1,h2⟩:=Lg w ht hf hd hk.1 hi (hg x ak)
      exact ⟨v',by simp [execOp,ho,h1],h2⟩
     ·cases hc
    ·cases hc
   ·cases hc
  ·cases hc
 | slice t x lo dd mx=>
  rw [ho] at hc ak
  simp only [cJ] at hc
  split at hc
  ·rename_i ht
   simp at hc;subst hc
   simp only [Op.operands,Array.all_append,and_eq_true] at ak
   obtain ⟨⟨⟨h0,h1⟩,h2⟩,_⟩:=ak
   obtain ⟨k1,k2⟩:=Lu w ht hi (hg x (by simpa using h0)) (ri hg lo h1) (ri hg dd h2)
   exact ⟨v,by simp [execOp,ho,k1],k2⟩
  ·rename_i e ht
   split at hc
   ·rename_i hk
    simp at hc;subst hc
    simp only [Op.operands,Array.all_append,and_eq_true] at ak
    obtain ⟨⟨⟨h0,h1⟩,h2⟩,_⟩:=ak
    obtain ⟨v',k1,k2⟩:=Lv w hH ht hk hi (hg x (by simpa using h0)) (ri hg lo h1) (ri hg dd h2)
    exact ⟨v',by simp [execOp,ho,k1],k2⟩
   ·cases hc
  ·cases hc
 | nilCheck x=>
  rw [ho] at hc ak
  simp [cJ] at hc;subst hc
  simp [Op.operands] at ak
  exact Ls w ho hi (hg x ak)
 | makeFunc fn first captured=>
  rw [ho] at hc ak
  cases fn with
  | func f=>
   simp [cJ] at hc;subst hc
   simp only [Op.operands,Array.all_append,and_eq_true] at ak
   simp [cP] at hi;subst hi
   have h1:=aC.lE hg (xs:=first.toList) (by simpa using ak.1)
   have h2:=aC.lE hg (xs:=captured.toList) (by simpa using ak.2)
   refine ⟨.func (.func f) (first.map g') (captured.map g'),by simp [execOp,ho,Instr.makeFunc],?_⟩
   refine .func f (by simp) (by simp) ?_ ?_
   ·have:=h1.ofList
    simpa using this
   ·have:=h2.ofList
    simpa using this
  | _=>simp [cJ] at hc
 | extract x i=>
  rw [ho] at hc ak
  simp [cJ] at hc;subst hc
  simp [Op.operands] at ak
  obtain ⟨v',h1,h2⟩:=Le (P:=P) w hi (hg x ak)
  exact ⟨v',by simp [execOp,ho,h1],h2⟩
 | build t parts=>
  rw [ho] at hc ak
  simp only [cJ] at hc
  simp only [Op.operands] at ak
  have hq:∀q∈parts.toList,di q.2=true:=by
   intro q hm
   rw [Array.all_eq_true'] at ak
   exact ak q.2 (by simp;exact ⟨q.1,by simpa using hm⟩)
  split at hc
  ·rename_i fs zs ht hz
   split at hc
   ·rename_i hk
    split at hc
    ·rename_i ps hps
     simp at hc;subst hc
     have hp:=BX hg ((placesOf P fs)[·]?) parts.toList ps hps hq
     have bH:∀f∈fs.toList,cB P f.type=true:=by
      rw [Array.all_eq_true'] at hk
      intro f hf
      exact hk f (by simpa using hf)
     obtain ⟨v',h1,h2⟩:=La w ht hz bH (qs:=parts.map λ(i,x)=>(i,g' x)) (by simpa using hp) hi
     exact ⟨v',by simp [execOp,ho,h1],h2⟩
    ·cases hc
   ·cases hc
  ·rename_i n e zs ht hz
   split at hc
   ·rename_i hk
    simp at hc;subst hc
    have hp:=vQ hg (λi=>(i*P.cellsOf e,P.cellsOf e)) parts.toList hq
    obtain ⟨v',h1,h2⟩:=K9 w ht hz hk (qs:=parts.map λ(i,x)=>(i,g' x)) (by simpa using hp) hi
    exact ⟨v',by simp [execOp,ho,h1],h2⟩
   ·cases hc
  ·cases hc
 | call c=>
  rw [ho] at hc ak
  obtain ⟨callee,args,argTypes⟩:=c
  cases callee with
  | builtin b=>
   simp only [Op.operands,Call.operands,Array.empty_append] at ak
   have gf:=aC.lE hg (xs:=args.toList) (by simpa using ak)
   have fin:∀v',(∀mh,(builtin b argTypes o.type mh (args.map g')).run P w=.ok (.value v') w)->(execOp g' o).run P w=.ok (.value v') w:=by
    intro v' h
    simp [execOp,ho,resolve,invoke,h]
   cases b with
   | len=>
    simp only [cJ] at hc
    split at hc
    ·rename_i x t hx lq
     obtain rfl:args=#[x]:=ext' hx
     obtain rfl:argTypes=#[t]:=ext' lq
     simp at ak
     have hr:=hg x ak
     split at hc
     ·rename_i ht
      simp at hc;subst hc
      simp only [cP,eN] at hi
      split at hi
      ·rename_i s hs
       rw [hs] at hr
       simp at hi;subst hi
       refine ⟨_,fin _ ?_,.int _ _⟩
       intro mh
       simp [builtin,Builtin.len_,run_underlying ht,hr.iT,goInt,oY]
      ·cases hi
     ·rename_i e ht
      simp at hc;subst hc
      simp only [cP,cK] at hi
      split at hi
      ·rename_i a n c hs
       rw [hs] at hr
       simp at hi;subst hi
       refine ⟨_,fin _ ?_,.int _ _⟩
       intro mh
       generalize hy:g' x=y at hr
       cases hr <;> simp [builtin,Builtin.len_,run_underlying ht,hy,goInt]
      ·cases hi
     ·rename_i n e ht
      simp at hc;subst hc
      simp [cP] at hi;subst hi
      refine ⟨_,fin _ ?_,.int _ _⟩
      intro mh
      simp [builtin,Builtin.len_,run_underlying ht,goInt]
     ·cases hc
    ·cases hc
   | min=>
    simp [cJ] at hc;subst hc
    simp only [cP,fJ] at hi
    split at hi
    ·rename_i k n rest hl
     rw [hl] at gf
     generalize hy:args.toList.map g'=ys at gf
     cases gf with
     | cons h1 h2=>
      rename_i y0 Mf
      have e:=h1.dX
      subst e
      obtain ⟨k1,k2⟩:=wg (P:=P) w hi h2
      refine ⟨v,fin v ?_,k2⟩
      intro mh
      simp only [builtin,Sem.run_bind,Builtin.min_,Array.toList_map,hy]
      simp at k1
      rw [k1]
      rfl
    ·cases hi
   | max=>
    simp [cJ] at hc;subst hc
    simp only [cP,fJ] at hi
    split at hi
    ·rename_i k n rest hl
     rw [hl] at gf
     generalize hy:args.toList.map g'=ys at gf
     cases gf with
     | cons h1 h2=>
      rename_i y0 Mf
      have e:=h1.dX
      subst e
      obtain ⟨k1,k2⟩:=wg (P:=P) w hi h2
      refine ⟨v,fin v ?_,k2⟩
      intro mh
      simp only [builtin,Sem.run_bind,Builtin.max_,Array.toList_map,hy]
      simp at k1
      rw [k1]
      rfl
    ·cases hi
   | _=>simp [cJ] at hc
  | value y=>
   cases y with
   | func f=>
    simp only [cJ] at hc
    split at hc
    ·rename_i x c hx
     split at hc
     ·rename_i hf
      simp at hc;subst hc
      obtain rfl:args=#[x,c]:=ext' hx
      simp [Op.operands,Call.operands] at ak
      simp only [cP] at hi
      split at hi
      ·rename_i f' a b Hc
       split at hi
       ·rename_i kQ
        obtain ⟨rfl,ha,hb⟩:=kQ
        obtain rfl:=Array.eq_empty_of_size_eq_zero ha
        obtain rfl:=Array.eq_empty_of_size_eq_zero hb
        have h0:=hg (.func f') ak.1
        rw [Hc] at h0
        generalize hy:g' (.func f')=y at h0
        cases h0 with
        | func _ s1 s2 _ _=>
         rename_i xs' iC
         obtain rfl:=Array.eq_empty_of_size_eq_zero s1.symm
         obtain rfl:=Array.eq_empty_of_size_eq_zero s2.symm
         simp only [oC] at hi
         split at hi
         ·rename_i s n hs hn
          injection hi with hi
          subst hi
          have h1:=hg x ak.2.1
          have h2:=hg c ak.2.2
          rw [hs] at h1
          rw [hn] at h2
          have e1:=h1.iT
          have e2:=h2.dX
          refine ⟨_,?_,.int _ _⟩
          obtain ⟨fn,q1,q2,q3,q4,q5⟩:=Gm hf
          have:=run_callFunc_extern (P:=P) q1 q2 q3 q4 q5 #[.string s,.int .u8 n] w
          simp [execOp,ho,resolve,Deferred.ofValue,invoke,hy,e1,e2]
          rw [this,Lib.run_indexByteString]
          rfl
         ·cases hi
       ·cases hi
      ·cases hi
     ·cases hc
    ·cases hc
   | _=>simp [cJ] at hc
  | _=>simp [cJ] at hc
 | _=>rw [ho] at hc;simp [cJ] at hc
end
end
section
theorem bV.mono {ρ ae:ai} (h:ρ.le ae) {c:Array Value} {sh:Nat} {xs:List Value} (hc:bV ρ c sh xs):bV ae c sh xs:=by
 intro j x hj
 obtain ⟨h1,y,hy,hr⟩:=hc j x hj
 exact ⟨h1,y,hy,hr.mono h⟩
theorem eI.mono {ρ ae:ai} {w w':World} {r:RI} {o:aA} (hle:ρ.le ae) (hw:w'.heap[r.aD]?=w.heap[r.aD]?) (h:eI ρ w r o):eI ae w' r o:=by
 cases o with
 | ro e xs=>
  obtain ⟨h1,c,t,fr,h2,h3,h4⟩:=h
  exact ⟨h1,c,t,fr,by rw [hw];exact h2,h3,h4.mono hle⟩
 | arr e xs=>
  obtain ⟨h1,h0,c,h2,h3,h4⟩:=h
  exact ⟨h1,h0,c,by rw [hw];exact h2,h3,h4.mono hle⟩
 | smap es=>
  obtain ⟨aj,clock,h1,h2,h3⟩:=h
  refine ⟨aj,clock,by rw [hw];exact h1,h2,?_⟩
  intro j k v hj
  obtain ⟨en,he,hk,hv⟩:=h3 j k v hj
  exact ⟨en,he,hk,hv.mono hle⟩
 | dW kd es=>
  obtain ⟨aj,clock,h1,h2,h3⟩:=h
  refine ⟨aj,clock,by rw [hw];exact h1,h2,?_⟩
  intro j k v hj
  obtain ⟨en,he,hk,hv⟩:=h3 j k v hj
  exact ⟨en,he,hk,hv.mono hle⟩
 | cq g c es=>
  obtain ⟨h0,aj,h1,h2,h3⟩:=h
  refine ⟨h0,aj,by rw [hw];exact h1,h2,?_⟩
  intro j b k v hj
  obtain ⟨hg,en,he,hk,hb,hv⟩:=h3 j b k v hj
  exact ⟨hg,en,he,hk,hb,hv.mono hle⟩
 | iter m s n l=>
  obtain ⟨h0,rm,h1,h2⟩:=h
  exact ⟨h0,rm,hle _ _ h1,by rw [hw];exact h2⟩
 | loop c ls vs=>
  obtain ⟨rec,h1,h2,h3,h4,h5,h6,h7,h8⟩:=h
  exact ⟨rec,by rw [hw];exact h1,h2,h3,h4,h5,h6,h7,λt=>(h8 t).mono hle⟩
 | dead=>trivial
def ai.add (ρ:ai) (i:Nat) (r:RI):ai:=λj=>if j=i then some r else ρ j
theorem ai.jD {ρ:ai} {i:Nat} {r:RI} (h:ρ i=none):ρ.le (ρ.add i r):=by
 intro j s hj
 unfold ai.add
 split
 ·rename_i e;subst e;rw [h] at hj;cases hj
 ·exact hj
theorem ar.none {P:Program} {ρ:ai} {h:ad} {w:World} (H:ar P ρ h w):ρ h.length=none:=by
 cases hr:ρ h.length with
 | none=>rfl
 | some r=>exact absurd (H.lt hr) (Nat.lt_irrefl _)
theorem oM {P:Program} {ρ:ai} {h:ad} {w:World} (H:ar P ρ h w) {i:Nat} {r:RI} (hi:ρ i=some r) (hl:bF h i):r.aD<w.heap.size:=by
 obtain ⟨o,ho,hr⟩:=H.obj i r hi
 obtain ⟨o',bg,bc⟩:=hl
 rw [ho] at bg
 cases bg
 have key:∀{x:Obj},w.heap[r.aD]?=some x->r.aD<w.heap.size:=λh=>(Array.getElem?_eq_some_iff.1 h).1
 cases o with
 | ro e xs=>obtain ⟨_,c,_,fr,h2,_⟩:=hr;exact key h2
 | arr e xs=>obtain ⟨_,_,c,h2,_⟩:=hr;exact key h2
 | smap es=>obtain ⟨aj,clock,h1,_⟩:=hr;exact key h1
 | dW kd es=>obtain ⟨aj,clock,h1,_⟩:=hr;exact key h1
 | cq g c es=>obtain ⟨_,aj,h1,_⟩:=hr;exact key h1
 | iter m s n l=>obtain ⟨_,rm,_,h1⟩:=hr;exact key h1
 | loop c ls vs=>obtain ⟨rec,h1,_⟩:=hr;exact key h1
 | dead=>exact absurd rfl bc
structure dn (w:World) (b:Obj) (w':World):Prop where
 heap:w'.heap=w.heap.push b
 os:w'.os=w.os
 tape:w'.tape=w.tape
 output:w'.output=w.output
theorem dn.alloc (w:World) (b:Obj):dn w b (w.alloc b):=⟨rfl,rfl,rfl,rfl⟩
theorem dn.drew (w:World) (b:Obj):dn w b (w.drew.alloc b):=⟨rfl,rfl,rfl,rfl⟩
theorem dn.old {w w':World} {b:Obj} (n:dn w b w') {k:Nat} (h:k<w.heap.size):w'.heap[k]?=w.heap[k]?:=by
 rw [n.heap,Array.getElem?_push,if_neg (by omega)]
theorem dn.new {w w':World} {b:Obj} (n:dn w b w'):w'.heap[w.heap.size]?=some b:=by
 rw [n.heap,Array.getElem?_push,if_pos rfl]
theorem dn.size {w w':World} {b:Obj} (n:dn w b w'):w'.heap.size=w.heap.size+1:=by
 rw [n.heap];simp
theorem ar.new {P:Program} {ρ:ai} {h h₀:ad} {w w':World} {b:Obj} {r:RI} {o:aA} (H:ar P ρ h w) (nb:dn w b w') (hb:r.aD=w.heap.size) (he:r.aL=P.cellsOf r.elem)
  (hk:h₀.length=h.length) (hd:∀i:Nat,h₀[i]?=h[i]?∨h₀[i]?=some aA.dead)
  (ho:eI (ρ.add h.length r) w' r o):ar P (ρ.add h.length r) (h₀++[o]) w'/\Tr ρ h w (ρ.add h.length r) (h₀++[o]) w':=by
 have hle:=ai.jD (r:=r) H.none
 have de:∀i,i<h.length->aI (h₀++[o]) i->aI h i:=by
  intro i hi hm
  unfold aI at hm⊢
  rw [getElem?_append_left (by omega)] at hm
  rcases hd i with e | e <;> rw [e] at hm
  ·exact hm
  ·rcases hm with ⟨_,_,hm⟩ | ⟨_,hm⟩ | ⟨_,_,_,hm⟩ | ⟨_,_,hm⟩ | ⟨_,_,_,hm⟩ | ⟨_,_,_,_,hm⟩ <;> cases hm
 have la:∀i,i<h.length->bF (h₀++[o]) i->bF h i:=by
  intro i hi hm
  unfold bF at hm⊢
  rw [getElem?_append_left (by omega)] at hm
  rcases hd i with e | e <;> rw [e] at hm
  ·exact hm
  ·obtain ⟨o',h1,h2⟩:=hm;cases h1;exact absurd rfl h2
 have aD:∀i s,ρ i=some s->bF (h₀++[o]) i->s.aD<w.heap.size:=λi s hi hl=>oM H hi (la i (H.lt hi) hl)
 constructor
 ·constructor
  ·intro i s hi
   unfold ai.add at hi
   split at hi
   ·rename_i e
    subst e
    cases hi
    refine ⟨o,?_,ho⟩
    rw [<-hk]
    simp
   ·obtain ⟨o',bg,hr⟩:=H.obj i s hi
    have hlt:=H.lt hi
    rw [getElem?_append_left (by omega)]
    rcases hd i with e | e
    ·refine ⟨o',by rw [e];exact bg,?_⟩
     by_cases j5:o'=.dead
     ·subst j5;trivial
     ·exact hr.mono hle (nb.old (oM H hi ⟨o',bg,j5⟩))
    ·exact ⟨.dead,e,trivial⟩
  ·intro i j s t hi hj bZ hm hl
   unfold ai.add at hi hj
   split at hi <;> split at hj
   ·omega
   ·rename_i e1 e2
    cases hi
    have:=aD j t hj hl
    omega
   ·rename_i e1 e2
    cases hj
    have:=aD i s hi hm.live
    omega
   ·exact H.inj i j s t hi hj bZ (de i (H.lt hi) hm) (la j (H.lt hj) hl)
  ·intro i s hi
   unfold ai.add at hi
   split at hi
   ·cases hi;exact he
   ·exact H.aL i s hi
 ·exact {
   ext:=hle
   len:=by simp;omega
   cV:=λi s hi=>H.lt hi
   kinds:=de
   fresh:=by
    intro i s hi hn
    unfold ai.add at hi
    split at hi
    ·rename_i e;cases hi;exact ⟨by omega,.inl (by omega)⟩
    ·rw [hn] at hi;cases hi
   cu:=by rw [nb.size];omega
   ck:=λk bH _=>nb.old bH
   os:=nb.os
   tape:=nb.tape
   output:=nb.output }
structure eR (w:World) (k:Nat) (b:Obj) (w':World):Prop where
 here:w'.heap[k]?=some b
 other:∀j,j≠k->w'.heap[j]?=w.heap[j]?
 size:w'.heap.size=w.heap.size
 os:w'.os=w.os
 tape:w'.tape=w.tape
 output:w'.output=w.output
theorem eR.row {w:World} {g:Nat} {c:Array Value} {e:TypeId} {fr:Nat×Nat} (hg:w.heap[g]?=some (.cells c e fr)) (c':Array Value):eR w g (.cells c' e fr) (w.setRow g c') where
 here:=by simp [World.setRow,Array.getElem?_modify,hg]
 other:=by intro j hj;simp [World.setRow,Array.getElem?_modify,Ne.symm hj]
 size:=by simp [World.setRow]
 os:=rfl
 tape:=rfl
 output:=rfl
theorem ar.set {P:Program} {ρ:ai} {h:ad} {w w':World} {b:Obj} {i:Nat} {r:RI} {o:aA} (H:ar P ρ h w) (hi:ρ i=some r) (hm:aI h i) (sb:eR w r.aD b w')
  (ho:eI ρ w' r o):ar P ρ (h.set i o) w'/\Tr ρ h w ρ (h.set i o) w':=by
 have hlt:=H.lt hi
 have de:∀j,aI (h.set i o) j->aI h j:=by
  intro j hj
  by_cases e:j=i
  ·subst e;exact hm
  ·unfold aI at hj⊢
   rw [getElem?_set_ne (Ne.symm e)] at hj
   exact hj
 have la:∀j,bF (h.set i o) j->bF h j:=by
  intro j hj
  by_cases e:j=i
  ·subst e;exact hm.live
  ·unfold bF at hj⊢
   rw [getElem?_set_ne (Ne.symm e)] at hj
   exact hj
 constructor
 ·constructor
  ·intro j s hj
   by_cases e:j=i
   ·subst e
    rw [hi] at hj
    cases hj
    exact ⟨o,by rw [List.getElem?_set_self hlt],ho⟩
   ·obtain ⟨o',bg,hr⟩:=H.obj j s hj
    refine ⟨o',by rw [getElem?_set_ne (Ne.symm e)];exact bg,?_⟩
    by_cases j5:o'=.dead
    ·subst j5;trivial
    ·refine hr.mono (.refl _) (sb.other _ ?_)
     intro hb
     exact e (H.inj i j r s hi hj hb.symm hm ⟨o',bg,j5⟩).symm
  ·intro j k s t hj hk bZ ct hl
   exact H.inj j k s t hj hk bZ (de j ct) (la k hl)
  ·exact H.aL
 ·exact {
   ext:=.refl _
   len:=by simp
   cV:=λj s hj=>H.lt hj
   kinds:=λj _ hj=>de j hj
   fresh:=λj s h1 h2=>by rw [h1] at h2;cases h2
   cu:=by rw [sb.size];exact le_refl _
   ck:=λk _ aH=>sb.other k λe=>aH i r hi e.symm hm
   os:=sb.os
   tape:=sb.tape
   output:=sb.output }
theorem ar.move {P:Program} {ρ:ai} {h:ad} {w w':World} {b:Obj} {i:Nat} {r:RI} {o:aA} (H:ar P ρ h w) (hi:ρ i=some r) (hm:aI h i) (sb:eR w r.aD b w')
  (ho:eI (ρ.add h.length r) w' r o):ar P (ρ.add h.length r) (h.set i .dead++[o]) w'/\Tr ρ h w (ρ.add h.length r) (h.set i .dead++[o]) w':=by
 have hlt:=H.lt hi
 have hle:=ai.jD (r:=r) H.none
 have get:∀j,j<h.length->j≠i->(h.set i .dead++[o])[j]?=h[j]?:=by
  intro j hj e
  rw [getElem?_append_left (by simpa using hj),getElem?_set_ne (Ne.symm e)]
 have tK:(h.set i .dead++[o])[i]?=some .dead:=by
  rw [getElem?_append_left (by simpa using hlt),List.getElem?_set_self hlt]
 have de:∀j,j<h.length->aI (h.set i .dead++[o]) j->aI h j/\j≠i:=by
  intro j hj ct
  have bc:j≠i:=by
   intro e
   subst e
   unfold aI at ct
   rw [tK] at ct
   rcases ct with ⟨_,_,h1⟩ | ⟨_,h1⟩ | ⟨_,_,_,h1⟩ | ⟨_,_,h1⟩ | ⟨_,_,_,h1⟩ | ⟨_,_,_,_,h1⟩ <;> cases h1
  refine ⟨?_,bc⟩
  unfold aI at ct⊢
  rw [get j hj bc] at ct
  exact ct
 have la:∀j,j<h.length->bF (h.set i .dead++[o]) j->bF h j/\j≠i:=by
  intro j hj ct
  have bc:j≠i:=by
   intro e
   subst e
   obtain ⟨o',h1,h2⟩:=ct
   rw [tK] at h1
   cases h1
   exact h2 rfl
  refine ⟨?_,bc⟩
  unfold bF at ct⊢
  rw [get j hj bc] at ct
  exact ct
 constructor
 ·constructor
  ·intro j s hj
   unfold ai.add at hj
   split at hj
   ·rename_i e
    subst e
    cases hj
    exact ⟨o,by rw [List.getElem?_append_right (by simp)];simp,ho⟩
   ·by_cases e:j=i
    ·subst e
     exact ⟨.dead,tK,trivial⟩
    ·obtain ⟨o',bg,hr⟩:=H.obj j s hj
     refine ⟨o',by rw [get j (H.lt hj) e];exact bg,?_⟩
     by_cases j5:o'=.dead
     ·subst j5;trivial
     ·refine hr.mono hle (sb.other _ ?_)
      intro hb
      exact e (H.inj i j r s hi hj hb.symm hm ⟨o',bg,j5⟩).symm
  ·intro j k s t hj hk bZ ct hl
   unfold ai.add at hj hk
   split at hj <;> split at hk
   ·omega
   ·cases hj
    obtain ⟨h1,h2⟩:=la k (H.lt hk) hl
    exact absurd (H.inj i k r t hi hk bZ hm h1).symm h2
   ·cases hk
    obtain ⟨h1,h2⟩:=de j (H.lt hj) ct
    exact absurd (H.inj j i s r hj hi bZ h1 hm.live) h2
   ·exact H.inj j k s t hj hk bZ (de j (H.lt hj) ct).1 (la k (H.lt hk) hl).1
  ·intro j s hj
   unfold ai.add at hj
   split at hj
   ·cases hj;exact H.aL i r hi
   ·exact H.aL j s hj
 ·exact {
   ext:=hle
   len:=by simp
   cV:=λj s hj=>H.lt hj
   kinds:=λj hj ct=>(de j hj ct).1
   fresh:=by
    intro j s hj hn
    unfold ai.add at hj
    split at hj
    ·rename_i e;cases hj;exact ⟨by omega,.inr ⟨i,r,hi,rfl,hm⟩⟩
    ·rw [hn] at hj;cases hj
   cu:=by rw [sb.size];exact le_refl _
   ck:=λk _ aH=>sb.other k λe=>aH i r hi e.symm hm
   os:=sb.os
   tape:=sb.tape
   output:=sb.output }
end
section
inductive fU where
 | load (agg:Bool) (n:Nat) (a:Operand)
 | mc (x:Operand)
 | lookup (ok:Bool) (zero:Value) (m k:Operand)
 | ra (kd:IntKind) (ok:Bool) (zero:Value) (m k:Operand)
 | q9 (g:ca) (ok:Bool) (zero:Value) (m k:Operand)
 | entry (it:Operand)
 | obj (x:Operand)
inductive eK where
 | alloc (e:TypeId) (zs:List Value)
 | fc (e:TypeId) (n:Nat) (zs:List Value) (parts:List (Nat×Nat×Operand))
 | make (e:TypeId) (bytes:Nat) (zs:List Value) (l c:Operand)
 | fO (g:ca)
inductive fS where
 | fl (a:eK)
 | store (n:Nat) (a v:Operand)
 | box (e:TypeId) (x:Operand)
 | alloc (e:TypeId) (zs:List Value)
 | fc (e:TypeId) (n:Nat) (zs:List Value) (parts:List (Nat×Nat×Operand))
 | make (e:TypeId) (bytes:Nat) (zs:List Value) (l c:Operand)
 | app (e:TypeId) (aL bytes:Nat) (s x:Operand)
 | mkMap
 | re (kd:IntKind)
 | fO (g:ca)
 | vb (g:ca) (m k v:Operand)
 | ti (g:ca) (m k:Operand)
 | vV (x:Operand)
 | next (it:Operand)
 | die
 | vc (kd:IntKind) (m k v:Operand)
 | va (m k v:Operand)
 | copy (d s:Operand)
def bd (h:ad) (i:Nat):Option (List Value):=
 match h[i]? with
 | some (.ro _ xs)=>some xs
 | some (.arr _ xs)=>some xs
 | _=>none
def ax (agg:Bool) (n:Nat) (h:ad) (a:Value):Option Value:=
 match a with
 | .pointer (some ⟨i,o,none⟩)=>(bd h i).bind λxs=>dv agg o n xs
 | _=>none
def jR:Value->Option UInt8
 | .int .u8 n=>some (UInt8.ofNat n.toNat)
 | _=>none
def dj (h:ad) (aL:Nat) (x:Value):Option (List Value):=
 match x with
 | .slice none 0 0=>some []
 | .slice (some ⟨i,o,some _⟩) n _=>
  if n=0 then some [] else (bd h i).bind λxs=>if o+n*aL<=xs.length then some ((xs.drop o).take (n*aL)) else none
 | _=>none
def fI (h:ad) (x:Value):Option Value:=(dj h 1 x).bind λcs=>(cs.mapM jR).map S
def ji (k:ByteArray):List (ByteArray×Value)->Option Value
 | []=>none
 | (k',v)::es=>if k=k' then some v else ji k es
def iw (k:ByteArray) (v:Value):List (ByteArray×Value)->List (ByteArray×Value)
 | []=>[(k,v)]
 | (k',v')::es=>if k=k' then (k',v)::es else (k',v')::iw k v es
def jh (k:Int):List (Int×Value)->Option Value
 | []=>none
 | (k',v)::es=>if k=k' then some v else jh k es
def iv (k:Int) (v:Value):List (Int×Value)->List (Int×Value)
 | []=>[(k,v)]
 | (k',v')::es=>if k=k' then (k',v)::es else (k',v')::iv k v es
def qX (kd:IntKind) (ok:Bool) (zero:Value) (h:ad) (m k:Value):Option Value:=
 match m,k with
 | .map (some i),.int mN k=>
  match h[i]? with
  | some (.dW fb es)=>if mN=kd/\fb=kd then some (if ok then .tuple #[(jh k es).getD zero,.bool (jh k es).isSome] else (jh k es).getD zero) else none
  | _=>none
 | _,_=>none
def mL:Value->Value->Bool
 | .int k a,.int k' b=>decide (k=k')&&decide (a=b)
 | _,_=>false
def mM:List Value->List Value->Bool
 | [],[]=>true
 | a::jQ,b::bs=>mL a b&&mM jQ bs
 | _,_=>false
def jZ:Value->Value->Bool
 | .string a,.string b=>decide (bytes a=bytes b)
 | .agg jQ,.agg bs=>mM jQ.toList bs.toList
 | a,b=>mL a b
def gR (k:Value):List (Nat×Value×Value)->Option Nat
 | []=>none
 | (_,k',_)::es=>if jZ k k'=true then some 0 else (gR k es).map (·+1)
def kJ (k:Value) (es:List (Nat×Value×Value)):Option Value:=(gR k es).bind λj=>(es[j]?).map λe=>e.2.2
def lM (c:Nat) (k v:Value) (es:List (Nat×Value×Value)):List (Nat×Value×Value):=
 match gR k es with
 | some j=>es.modify j λe=>(e.1,k,v)
 | none=>es++[(c,k,v)]
def kE (c:Nat) (k:Value) (es:List (Nat×Value×Value)):Nat:=match gR k es with | some _=>c | none=>c+1
def kI (k:Value) (es:List (Nat×Value×Value)):List (Nat×Value×Value):=
 match gR k es with
 | some j=>es.eraseIdx j
 | none=>es
def qW (g:ca) (ok:Bool) (zero:Value) (h:ad) (m k:Value):Option Value:=
 match m with
 | .map (some i)=>
  match h[i]? with
  | some (.cq g' _ es)=>if g'=g/\bT g k=true then some (if ok then .tuple #[(kJ k es).getD zero,.bool (kJ k es).isSome] else (kJ k es).getD zero) else none
  | _=>none
 | _=>none
def uL (g:ca) (h:ad) (m k v:Value):Option ad:=
 match m with
 | .map (some i)=>
  match h[i]? with
  | some (.cq g' c es)=>if g'=g/\bT g k=true/\dM v=true then some (h.set i (.cq g (kE c k es) (lM c k v es))) else none
  | _=>none
 | _=>none
def uG (g:ca) (h:ad) (m k:Value):Option ad:=
 match m with
 | .map (some i)=>
  match h[i]? with
  | some (.cq g' c es)=>if g'=g/\bT g k=true then some (h.set i (.cq g c (kI k es))) else none
  | _=>none
 | _=>none
def uN (h:ad) (x:Value):Option (Value×ad):=
 match x with
 | .map (some i)=>
  match h[i]? with
  | some (.cq _ c _)=>some (.pointer (some ⟨h.length,0,none⟩),h++[.iter i c [] c])
  | _=>none
 | _=>none
def qT (h:ad) (it:Value):Option Value:=
 match it with
 | .pointer (some ⟨j,0,none⟩)=>
  match h[j]? with
  | some (.iter i _ seen last)=>
   match h[i]?,seen.getLast? with
   | some (.cq _ c es),some b=>if c=last then (es.find? λe=>e.1==b).map λe=>.tuple #[e.2.1,e.2.2] else none
   | _,_=>none
  | _=>none
 | _=>none
def oL:Value->Bool
 | .bool _ | .int .. | .string _ | .nilFunc | .nilIface=>true
 | .pointer none | .map none=>true
 | .slice none 0 0=>true
 | _=>false
def nJ:ca->Value
 | .int k=>.int k 0
 | .str=>.bool true
 | .ints n k=>.agg #[.int k n]
def gP (i:Nat) (x:Value):Bool:=
 oL x||(match x with | .slice (some ⟨k,_,_⟩) _ _=>decide (k<i) | _=>false)
@[simp] theorem MS (i : Nat) (k : IntKind) (z : Int) : gP i (.int k z) = true := rfl
@[simp] theorem MR (i : Nat) (b : Bool) : gP i (.bool b) = true := rfl
@[simp] theorem MU (i : Nat) (s) : gP i (.string s) = true := rfl
@[simp] theorem MT (i : Nat) : gP i (.slice none 0 0) = true := rfl
def hG (i:Nat):aA->Option Value
 | .arr e xs=>if xs.all (gP i) then some (.agg (.int .i64 e::xs).toArray) else none
 | .cq g c es=>if c=0/\es.isEmpty=true then some (.tuple #[nJ g]) else none
 | _=>none
def uO:Value->Option Nat
 | .pointer (some ⟨i,_,none⟩)=>some i
 | .slice (some ⟨i,_,_⟩) _ _=>some i
 | .map (some i)=>some i
 | _=>none
def fu (h:ad) (x:Value):Option Value:=(uO x).bind λi=>(h[i]?).bind (hG i)
def qV (ok:Bool) (zero:Value) (h:ad) (m k:Value):Option Value:=
 match m,k with
 | .map (some i),.string k=>
  match h[i]? with
  | some (.smap es)=>some (if ok then .tuple #[(ji k es).getD zero,.bool (ji k es).isSome] else (ji k es).getD zero)
  | _=>none
 | _,_=>none
def bM (o:fU) (g:Operand->Value) (h:ad):Option Value:=
 match o with
 | .load agg n a=>ax agg n h (g a)
 | .mc x=>fI h (g x)
 | .lookup ok zero m k=>qV ok zero h (g m) (g k)
 | .ra kd ok zero m k=>qX kd ok zero h (g m) (g k)
 | .q9 kd ok zero m k=>qW kd ok zero h (g m) (g k)
 | .entry it=>qT h (g it)
 | .obj x=>fu h (g x)
def jy (n:Nat) (h:ad) (a v:Value):Option ad:=
 match a with
 | .pointer (some ⟨i,o,none⟩)=>
  match h[i]? with
  | some (.arr e xs)=>if dM v/\(aZ v).length=n/\o+n<=xs.length then some (h.set i (.arr e (setAt xs o (aZ v)))) else none
  | _=>none
 | _=>none
def mQ (h:ad):Value:=.pointer (some ⟨h.length,0,none⟩)
def sl (e:TypeId) (i o n:Nat):Value:=.slice (some ⟨i,o,some e⟩) n n
def iO (e:TypeId) (h:ad) (x:Value):Option (Value×ad):=if dM x then some (mQ h,h++[.arr e (aZ x)]) else none
def dQ (zs:List Value) (n:Nat):List Value:=(List.replicate n zs).flatten
def bI (e:TypeId) (n:Nat) (zs:List Value) (h:ad) (ps:List (Nat×Nat×Value)):Option (Value×ad):=
 (gE (dQ zs n) ps).map λcs=>(sl e h.length 0 n,h++[.arr e cs])
def oD (e:TypeId) (bytes:Nat) (zs:List Value) (h:ad) (l c:Value):Option (Value×ad):=
 match l,c with
 | .int _ l,.int _ c=>if 0<=l/\l<=c/\(bytes:Int)*c<=281474976710656/\c<=9223372036854775807 then some (sl e h.length 0 l.toNat,h++[.arr e (dQ zs l.toNat)]) else none
 | _,_=>none
def fL:Value->Option Nat
 | .slice none 0 0=>some 0
 | .slice (some _) n _=>some n
 | _=>none
def cg (e:TypeId) (aL bytes:Nat) (h:ad) (s x:Value):Option (Value×ad):=
 match dj h aL x,fL x with
 | some news,some m=>
  match s with
  | .slice none 0 0=>
   if m=0 then some (s,h) else
   if m*bytes<=140737488355328/\m<=maxLen then some (sl e h.length 0 m,h++[.arr e news]) else none
  | .slice (some ⟨i,0,some e'⟩) n _=>
   match h[i]? with
   | some (.arr y9 xs)=>
    if e'=e/\y9=e/\xs.length=n*aL/\(n+m)*bytes<=140737488355328/\n+m<=maxLen then
     if m=0 then some (s,h) else some (sl e h.length 0 (n+m),h.set i .dead++[.arr e (xs++news)])
    else none
   | _=>none
  | _=>none
 | _,_=>none
def uK (h:ad) (m k v:Value):Option ad:=
 match m,k with
 | .map (some i),.string k=>
  match h[i]? with
  | some (.smap es)=>some (h.set i (.smap (iw k v es)))
  | _=>none
 | _,_=>none
def uM (kd:IntKind) (h:ad) (m k v:Value):Option ad:=
 match m,k with
 | .map (some i),.int mN k=>
  match h[i]? with
  | some (.dW fb es)=>if mN=kd/\fb=kd then some (h.set i (.dW kd (iv k v es))) else none
  | _=>none
 | _,_=>none
def eO (n:Nat) (h:ad) (a v:Value):Option (Value×ad):=(jy n h a v).map λh'=>(undef,h')
def mJ (e:TypeId) (zs:List Value) (h:ad):Option (Value×ad):=some (mQ h,h++[.arr e zs])
def uF (h:ad) (d s:Value):Option (Value×ad):=
 match fL d,fL s,dj h 1 s with
 | some n,some m,some cs=>
  if Nat.min m n=0 then some (.int .i64 0,h) else
  match d with
  | .slice (some ⟨i,o,some _⟩) _ _=>
   match h[i]? with
   | some (.arr e xs)=>if o+Nat.min m n<=xs.length then some (.int .i64 (Nat.min m n:Nat),h.set i (.arr e (setAt xs o (cs.take (Nat.min m n))))) else none
   | _=>none
  | _=>none
 | _,_,_=>none
def bU (o:fS) (g:Operand->Value) (h:ad):Option (Value×ad):=
 match o with
 | .fl a=>match a with
  | .alloc e zs=>some (mQ h,h++[.arr e zs])
  | .fc e n zs ps=>bI e n zs h (ps.map λ(o,s,x)=>(o,s,g x))
  | .make e bytes zs l c=>oD e bytes zs h (g l) (g c)
  | .fO kd=>some (.map (some h.length),h++[.cq kd 0 []])
 | .store n a v=>(jy n h (g a) (g v)).map λh'=>(undef,h')
 | .box e x=>iO e h (g x)
 | .alloc e zs=>some (mQ h,h++[.arr e zs])
 | .fc e n zs ps=>bI e n zs h (ps.map λ(o,s,x)=>(o,s,g x))
 | .make e bytes zs l c=>oD e bytes zs h (g l) (g c)
 | .app e aL bytes s x=>cg e aL bytes h (g s) (g x)
 | .mkMap=>some (.map (some h.length),h++[.smap []])
 | .va m k v=>(uK h (g m) (g k) (g v)).map λh'=>(undef,h')
 | .re kd=>some (.map (some h.length),h++[.dW kd []])
 | .die=>none
 | .next _=>none
 | .fO kd=>some (.map (some h.length),h++[.cq kd 0 []])
 | .vb kd m k v=>(uL kd h (g m) (g k) (g v)).map λh'=>(undef,h')
 | .ti kd m k=>(uG kd h (g m) (g k)).map λh'=>(.tuple #[],h')
 | .vV x=>uN h (g x)
 | .vc kd m k v=>(uM kd h (g m) (g k) (g v)).map λh'=>(undef,h')
 | .copy d s=>uF h (g d) (g s)
def eK.rV:eK->fS
 | .alloc e zs=>.alloc e zs
 | .fc e n zs ps=>.fc e n zs ps
 | .make e b zs l c=>.make e b zs l c
 | .fO g=>.fO g
def fS.rU:fS->Option eK
 | .alloc e zs=>some (.alloc e zs)
 | .fc e n zs ps=>some (.fc e n zs ps)
 | .make e b zs l c=>some (.make e b zs l c)
 | .fO g=>some (.fO g)
 | _=>none
def dZ (a:eK) (g:Operand->Value):Option ((Nat->Value)×aA):=
 match a with
 | .alloc e zs=>some (λi=>.pointer (some ⟨i,0,none⟩),.arr e zs)
 | .fc e n zs ps=>(gE (dQ zs n) (ps.map λ(o,s,x)=>(o,s,g x))).map λcs=>(λi=>sl e i 0 n,.arr e cs)
 | .make e bytes zs l c=>
  match g l,g c with
  | .int _ l,.int _ c=>if 0<=l/\l<=c/\(bytes:Int)*c<=281474976710656/\c<=9223372036854775807 then some (λi=>sl e i 0 l.toNat,.arr e (dQ zs l.toNat)) else none
  | _,_=>none
 | .fO g=>some (λi=>.map (some i),.cq g 0 [])
theorem zW (a:eK) (g:Operand->Value) (h:ad):bU (.fl a) g h=(dZ a g).map λp=>(p.1 h.length,h++[p.2]):=by
 cases a with
 | alloc e zs=>rfl
 | fc e n zs ps=>simp only [bU,dZ,bI,Option.map_map];rfl
 | make e b zs l c=>
  simp only [bU,dZ,oD]
  split
  ·split <;> rfl
  ·rfl
 | fO g=>rfl
theorem IE (a:eK) (g:Operand->Value) (h:ad):bU a.rV g h=bU (.fl a) g h:=by cases a <;> rfl
theorem Cz {e:fS} {a:eK} (h:e.rU=some a):a.rV=e:=by
 cases e <;> simp [fS.rU] at h <;> subst h <;> rfl
theorem sN {a:eK} {g:Operand->Value} {V:Nat->Value} {o:aA} (h:dZ a g=some (V,o)):∀i,uO (V i)=some i:=by
 cases a with
 | fO g=>simp [dZ] at h;obtain ⟨rfl,_⟩:=h;intro i;rfl
 | alloc e zs=>simp [dZ] at h;obtain ⟨rfl,_⟩:=h;intro i;rfl
 | fc e n zs ps=>simp only [dZ,map_eq_some_iff,Prod.mk.injEq] at h;obtain ⟨_,_,rfl,_⟩:=h;intro i;rfl
 | make e b zs l c=>
  simp only [dZ] at h
  split at h
  ·split at h
   ·simp at h;obtain ⟨rfl,_⟩:=h;intro i;rfl
   ·cases h
  ·cases h
def nc (P:Program) (t:TypeId):Option Value:=
 match P.info? t with
 | some i=>match i.zero with
  | some z=>if mf z then some z else none
  | none=>none
 | none=>none
def isString (P:Program) (t:TypeId):Bool:=match P.underlying t with | some .string=>true | _=>false
def lB (P:Program) (t:TypeId):Option IntKind:=match P.underlying t with | some (.int k)=>some k | _=>none
def lY:Value->Bool
 | .agg cs=>cs.toList.all mf
 | v=>ez v
def r6 (P:Program) (t:TypeId):Option Value:=
 match P.info? t with
 | some i=>match i.zero with
  | some z=>if lY z then some z else none
  | none=>none
 | none=>none
def gG (P:Program) (t:TypeId):Option ca:=
 match P.underlying t with
 | some (.map kt et)=>
  match P.underlying et with
  | some (.int _)=>none
  | _=>
   match P.underlying kt with
   | some .string=>some .str
   | some (.int k)=>some (.int k)
   | some (.array n e)=>
    match P.underlying e with
    | some (.int k)=>if (P.cellsOf e==1&&P.cellsOf kt==n&& !(P.types.size==0))=true then some (.ints n k) else none
    | _=>none
   | _=>none
 | _=>none
def jd (P:Program):Op->Option fU
 | .load t a=>
  match P.underlying t with
  | some d=>if cB P t&&(fw d||P.cellsOf t==1) then some (.load (fw d) (P.cellsOf t) a) else none
  | none=>none
 | .entry it=>some (.entry it)
 | .convert s d x=>
  match P.underlying s,P.underlying d with
  | some (.slice e),some .string=>match P.underlying e with | some (.int .u8)=>some (.mc x) | _=>none
  | _,_=>none
 | .lookup t m k ok=>
  match gG P t with
  | some g=>match P.underlying t with
   | some (.map _ et)=>(r6 P et).map λz=>.q9 g ok z m k
   | _=>none
  | none=>
  match P.underlying t with
  | some (.map kt et)=>if isString P kt then (nc P et).map λz=>.lookup ok z m k else (lB P kt).bind λkd=>(nc P et).map λz=>.ra kd ok z m k
  | _=>none
 | _=>none
def cO (P:Program):Op->Option fS
 | .store t a v=>if cB P t then some (.store (P.cellsOf t) a v) else none
 | .box e x=>some (.box e x)
 | .alloc e=>(zeroOf P e).map λzs=>.alloc e zs
 | .buildSlice t n ps=>
  match P.underlying t with
  | some (.slice e)=>
   match zeroOf P e with
   | some zs=>if n*P.cellsOf e<=16777216/\P.cellsOf e≠0 then some (.fc e n zs (ps.toList.map λ(i,x)=>(i*P.cellsOf e,P.cellsOf e,x))) else none
   | none=>none
  | _=>none
 | .makeSlice t l c=>
  match P.underlying t with
  | some (.slice e)=>
   match zeroOf P e with
   | some zs=>some (.make e (P.bytesOf e) zs l c)
   | none=>none
  | _=>none
 | .call { callee:=.builtin .append,args,argTypes }=>
  match args.toList,argTypes.toList with
  | [s,x],[t,t']=>
   if t=t' then
    match P.underlying t with
    | some (.slice e)=>
     match zeroOf P e with
     | some _=>some (.app e (P.cellsOf e) (P.bytesOf e) s x)
     | none=>none
    | _=>none
   else none
  | _,_=>none
 | .makeMap t none=>
  match gG P t with
  | some g=>some (.fO g)
  | none=>
  match P.underlying t with
  | some (.map kt _)=>some (match lB P kt with | some kd=>.re kd | none=>.mkMap)
  | _=>some .mkMap
 | .mapUpdate t m k v | .insert t m k v=>
  match gG P t with
  | some g=>some (.vb g m k v)
  | none=>
  match P.underlying t with
  | some (.map kt _)=>if isString P kt then some (.va m k v) else (lB P kt).map λkd=>.vc kd m k v
  | _=>none
 | .call { callee:=.builtin .delete,args,argTypes }=>
  match args.toList,argTypes[0]? with
  | [m,k],some t=>(gG P t).map λg=>.ti g m k
  | _,_=>none
 | .call { callee:=.builtin .copy,args,argTypes }=>
  match args.toList,argTypes.toList with
  | [d,s],[t,_]=>
   match P.underlying t with
   | some (.slice e)=>if (P.info? e).map (·.size)=some 1 then some (.copy d s) else none
   | _=>none
  | _,_=>none
 | .range t x=>(gG P t).map λ_=>.vV x
 | .next it false=>some (.next it)
 | .panic _ | .makeInterface .. =>some .die
 | _=>none
end
section
theorem LN {ρ:ai} {i o n:Nat} {e:TypeId} {y:Value} (h:af ρ (.slice (some ⟨i,o,some e⟩) n n) y):
  ∃r o' c',ρ i=some r/\r.elem=e/\y=.slice (some ⟨r.aD,o',none⟩) n c'/\(o'=r.sh+o∨(n=0/\0<o/\c'=0))/\n<=c'/\c'<=maxLen/\o'+c'*r.aL<=r.size:=by
 cases h with
 | slice hr a b c d=>exact ⟨_,_,_,hr,rfl,rfl,a,b,c,d⟩
theorem af.down {ρ ae:ai} (hle:ρ.le ae) {x y0:Value} (h0:af ρ x y0):∀{y:Value},af ae x y->af ρ x y:=by
 have same:∀{i:Nat} {r r':RI},ρ i=some r->ae i=some r'->r'=r:=λh h'=>by rw [hle _ _ h] at h';cases h';rfl
 induction h0 with
 | bool b=>intro y h;cases h;exact .bool b
 | int k n=>intro y h;cases h;exact .int k n
 | string s=>intro y h;cases h;exact .string s
 | nilPtr=>intro y h;cases h;exact .nilPtr
 | gv=>intro y h;cases h;exact .gv
 | iR=>intro y h;cases h;exact .iR
 | nilFunc=>intro y h;cases h;exact .nilFunc
 | nilIface=>intro y h;cases h;exact .nilIface
 | ptr hi=>intro y h;cases h with | ptr dd=>cases same hi dd;exact .ptr hi
 | slice hi a b c d=>
  intro y h
  obtain ⟨r',o',c',h1,h2,rfl,h3,h4,h5,h6⟩:=LN h
  cases same hi h1
  exact .slice hi h3 h4 h5 h6
 | void a=>intro y h;cases h;exact .void _
 | map hi=>intro y h;cases h with | map dd=>cases same hi dd;exact .map hi
 | yield hi=>intro y h;cases h with | yield dd=>cases same hi dd;exact .yield hi
 | func f s1 s2 _ _ uT uU=>
  intro y h
  cases h with
  | func _ t1 t2 q1 q2=>
   refine .func f t1 t2 (λk x x' e e'=>?_) (λk x x' e e'=>?_)
   ·obtain ⟨z,hz⟩:∃z,_=some z:=⟨_,getElem?_eq_getElem (by rw [<-s1];exact (Array.getElem?_eq_some_iff.1 e).1)⟩
    exact uT k x z e hz (q1 k x x' e e')
   ·obtain ⟨z,hz⟩:∃z,_=some z:=⟨_,getElem?_eq_getElem (by rw [<-s2];exact (Array.getElem?_eq_some_iff.1 e).1)⟩
    exact uU k x z e hz (q2 k x x' e e')
 | agg s1 hc _ ih=>
  intro y h
  cases h with
  | agg t1 _ q1=>
   refine .agg t1 hc (λk x x' e e'=>?_)
   obtain ⟨z,hz⟩:∃z,_=some z:=⟨_,getElem?_eq_getElem (by rw [<-s1];exact (Array.getElem?_eq_some_iff.1 e).1)⟩
   exact ih k x z e hz (q1 k x x' e e')
 | any v=>intro y _;exact .any y
 | tuple s1 _ ih=>
  intro y h
  cases h with
  | tuple t1 q1=>
   refine .tuple t1 (λk x x' e e'=>?_)
   obtain ⟨z,hz⟩:∃z,_=some z:=⟨_,getElem?_eq_getElem (by rw [<-s1];exact (Array.getElem?_eq_some_iff.1 e).1)⟩
   exact ih k x z e hz (q1 k x x' e e')
theorem bV.down {ρ ae:ai} (hle:ρ.le ae) {c c':Array Value} {sh Cv:Nat} {xs:List Value} (h0:bV ρ c sh xs) (h:bV ae c' Cv xs):bV ρ c' Cv xs:=by
 intro j x hj
 obtain ⟨_,y0,_,r0⟩:=h0 j x hj
 obtain ⟨c1,y,hy,r⟩:=h j x hj
 exact ⟨c1,y,hy,r0.down hle r⟩
theorem eI.down {ρ ae:ai} (hle:ρ.le ae) {w w':World} {r:RI} {o:aA} (h0:eI ρ w r o) (h:eI ae w' r o):eI ρ w' r o:=by
 cases o with
 | ro e xs=>
  obtain ⟨_,_,_,_,_,_,b4⟩:=h0
  obtain ⟨a1,c,t,fr,a2,a3,a4⟩:=h
  exact ⟨a1,c,t,fr,a2,a3,b4.down hle a4⟩
 | arr e xs=>
  obtain ⟨_,_,_,_,_,b4⟩:=h0
  obtain ⟨a1,a0,c,a2,a3,a4⟩:=h
  exact ⟨a1,a0,c,a2,a3,b4.down hle a4⟩
 | smap es=>
  obtain ⟨_,_,_,_,b3⟩:=h0
  obtain ⟨aj,clock,a1,a2,a3⟩:=h
  refine ⟨aj,clock,a1,a2,λj k v hj=>?_⟩
  obtain ⟨_,_,_,r0⟩:=b3 j k v hj
  obtain ⟨en,e1,e2,e3⟩:=a3 j k v hj
  exact ⟨en,e1,e2,r0.down hle e3⟩
 | dW kd es=>
  obtain ⟨_,_,_,_,b3⟩:=h0
  obtain ⟨aj,clock,a1,a2,a3⟩:=h
  refine ⟨aj,clock,a1,a2,λj k v hj=>?_⟩
  obtain ⟨_,_,_,r0⟩:=b3 j k v hj
  obtain ⟨en,e1,e2,e3⟩:=a3 j k v hj
  exact ⟨en,e1,e2,r0.down hle e3⟩
 | cq g c es=>
  obtain ⟨_,_,_,_,b3⟩:=h0
  obtain ⟨a0,aj,a1,a2,a3⟩:=h
  refine ⟨a0,aj,a1,a2,λj b k v hj=>?_⟩
  obtain ⟨_,_,_,_,_,r0⟩:=b3 j b k v hj
  obtain ⟨e0,en,e1,e2,kG,e3⟩:=a3 j b k v hj
  exact ⟨e0,en,e1,e2,kG,r0.down hle e3⟩
 | iter m s n l=>
  obtain ⟨_,KT,b1,_⟩:=h0
  obtain ⟨a0,rm,a1,a2⟩:=h
  have:=hle _ _ b1
  rw [a1] at this
  cases this
  exact ⟨a0,KT,b1,a2⟩
 | loop c ls vs=>
  obtain ⟨_,_,_,_,_,_,_,_,b8⟩:=h0
  obtain ⟨rec,a1,a2,a3,a4,a5,a6,a7,a8⟩:=h
  exact ⟨rec,a1,a2,a3,a4,a5,a6,a7,λt=>(b8 t).down hle (a8 t)⟩
 | dead=>trivial
theorem oL.rel {ρ ae:ai} {v v':Value} (h:oL v=true) (hv:af ρ v v'):af ae v v':=by
 unfold oL at h
 split at h
 ·cases hv;exact .bool _
 ·cases hv;exact .int _ _
 ·cases hv;exact .string _
 ·cases hv;exact .nilFunc
 ·cases hv;exact .nilIface
 ·cases hv;exact .nilPtr
 ·cases hv;exact .iR
 ·cases hv;exact .gv
 ·cases h
theorem ar.qy {P:Program} {ρ:ai} {h:ad} {w:World} (H:ar P ρ h w) (os:ad):ar P ρ (h++os) w where
 obj i r hi:=by
  obtain ⟨o,ho,hr⟩:=H.obj i r hi
  exact ⟨o,by rw [getElem?_append_left (H.lt hi)];exact ho,hr⟩
 inj i j r s hi hj hb hm hl:=by
  refine H.inj i j r s hi hj hb ?_ ?_
  ·unfold aI at hm⊢;rw [getElem?_append_left (H.lt hi)] at hm;exact hm
  ·unfold bF at hl⊢;rw [getElem?_append_left (H.lt hj)] at hl;exact hl
 aL:=H.aL
theorem Tr.qy {P:Program} {ρ:ai} {h:ad} {w:World} (H:ar P ρ h w) (os:ad):Tr ρ h w ρ (h++os) w where
 ext:=.refl _
 len:=by simp
 cV:=λ_ _ hi=>H.lt hi
 kinds:=λi hi hm=>by unfold aI at hm⊢;rw [getElem?_append_left hi] at hm;exact hm
 fresh:=λi r h1 h2=>by rw [h1] at h2;cases h2
 cu:=le_refl _
 ck:=λ_ _ _=>rfl
 os:=rfl
 tape:=rfl
 output:=rfl
theorem IG {lo:fU} {g:Operand->Value} {h:ad} {v:Value} (os:ad) (hl:bM lo g h=some v):bM lo g (h++os)=some v:=by
 have get:∀{i:Nat} {o:aA},h[i]?=some o->(h++os)[i]?=some o:=by
  intro i o hi
  rw [getElem?_append_left (bw hi).1];exact hi
 have cells:∀{i:Nat} {xs:List Value},bd h i=some xs->bd (h++os) i=some xs:=by
  intro i xs hc
  unfold bd at hc⊢
  split at hc
  ·rename_i e ys hq;rw [get hq];exact hc
  ·rename_i e ys hq;rw [get hq];exact hc
  ·cases hc
 cases lo with
 | load agg n a=>
  simp only [bM,ax] at hl⊢
  split at hl
  ·rename_i i o _
   cases hc:bd h i with
   | none=>rw [hc] at hl;cases hl
   | some xs=>rw [hc] at hl;rw [cells hc];exact hl
  ·cases hl
 | mc x=>
  have sc:∀{cs:List Value},dj h 1 (g x)=some cs->dj (h++os) 1 (g x)=some cs:=by
   intro cs hc
   unfold dj at hc⊢
   split at hc
   ·exact hc
   ·rename_i i o e n c hx
    split at hc
    ·rename_i h0;rw [if_pos h0];exact hc
    ·rename_i h0
     rw [if_neg h0]
     cases iJ:bd h i with
     | none=>rw [iJ] at hc;cases hc
     | some xs=>rw [iJ] at hc;rw [cells iJ];exact hc
   ·cases hc
  simp only [bM,fI] at hl⊢
  cases hc:dj h 1 (g x) with
  | none=>rw [hc] at hl;cases hl
  | some cs=>rw [hc] at hl;rw [sc hc];exact hl
 | lookup ok z m k=>
  simp only [bM,qV] at hl⊢
  split at hl
  ·rename_i i key hm hk
   split at hl
   ·rename_i es he;rw [get he];exact hl
   ·cases hl
  ·cases hl
 | ra kd ok z m k=>
  simp only [bM,qX] at hl⊢
  split at hl
  ·rename_i i mN key hm hk
   split at hl
   ·rename_i fb es he;rw [get he];exact hl
   ·cases hl
  ·cases hl
 | q9 gk ok z m k=>
  simp only [bM,qW] at hl⊢
  split at hl
  ·rename_i i hm
   split at hl
   ·rename_i g' c es he;rw [get he];exact hl
   ·cases hl
  ·cases hl
 | entry it=>
  simp only [bM,qT] at hl⊢
  split at hl
  ·rename_i j hj
   split at hl
   ·rename_i i si seen last hit
    rw [get hit]
    simp only
    split at hl
    ·rename_i gg c es b dU hb
     rw [get dU,hb]
     exact hl
    ·cases hl
   ·cases hl
  ·cases hl
 | obj x=>
  simp only [bM,fu] at hl⊢
  cases hx:uO (g x) with
  | none=>rw [hx] at hl;cases hl
  | some i=>
   rw [hx] at hl
   simp only [Option.bind_some] at hl⊢
   cases ho:h[i]? with
   | none=>rw [ho] at hl;cases hl
   | some o=>rw [ho] at hl;rw [get ho];exact hl
end
section
section
variable {P : Program} {w : World} {ρ : ai} {h : ad}
theorem ar.cells (H:ar P ρ h w) {i:Nat} {r:RI} {xs:List Value} (hi:ρ i=some r) (hx:bd h i=some xs):
  ∃c t fr,w.heap[r.aD]?=some (.cells c t fr)/\bV ρ c r.sh xs:=by
 obtain ⟨o,ho,hr⟩:=H.obj i r hi
 unfold bd at hx
 rw [ho] at hx
 cases o with
 | ro e ys=>
  simp at hx;subst hx
  obtain ⟨h1,c,t,fr,h2,h3,h4⟩:=hr
  exact ⟨c,t,fr,h2,h4⟩
 | arr e ys=>
  simp at hx;subst hx
  obtain ⟨h1,h0,c,h2,h3,h4⟩:=hr
  subst h1
  exact ⟨c,_,(0,0),h2,by rw [h0];exact h4⟩
 | smap es=>simp at hx
 | dW kd es=>simp at hx
 | cq g c es=>simp at hx
 | iter m s n l=>simp at hx
 | loop c ls vs=>simp at hx
 | dead=>simp at hx
theorem bV.wA {c:Array Value} {sh o n:Nat} {xs:List Value} (hc:bV ρ c sh xs) (hl:o+n<=xs.length):
  ∃ys:List Value,aC ρ ((xs.drop o).take n) ys/\ys.length=n/\(∀x∈(xs.drop o).take n,cL x=true)/\∀j v,ys[j]?=some v->c[sh+o+j]?=some v:=by
 have key:∀j,j<n->∃x y,((xs.drop o).take n)[j]?=some x/\c[sh+o+j]?=some y/\af ρ x y/\cL x=true:=by
  intro j hj
  have hx:xs[o+j]?=some (xs[o+j]'(by omega)):=List.getElem?_eq_getElem _
  obtain ⟨h1,y,hy,hr⟩:=hc (o+j) _ hx
  refine ⟨_,y,?_,by rw [<-hy];congr 1;omega,hr,h1⟩
  rw [List.getElem?_take,if_pos hj,List.getElem?_drop]
  exact hx
 have hlen:((xs.drop o).take n).length=n:=by simp;omega
 refine ⟨(List.range n).map λj=>c.getD (sh+o+j) Go.undef,?_,by simp,?_,?_⟩
 ·refine aC.vi (by simp;omega) ?_
  intro k x y hx hy
  have hk:k<n:=by have:=(bw hx).1;omega
  obtain ⟨x',y',h1,h2,h3,_⟩:=key k hk
  rw [h1] at hx;cases hx
  simp [hk] at hy
  subst hy
  simpa [Array.getD,Array.getElem?_eq_some_iff.1 h2 |>.1,(Array.getElem?_eq_some_iff.1 h2).2] using h3
 ·intro x hx
  obtain ⟨k,hk⟩:=List.getElem?_of_mem hx
  have bH:k<n:=by have:=(bw hk).1;omega
  obtain ⟨x',y',h1,h2,h3,h4⟩:=key k bH
  rw [h1] at hk;cases hk
  exact h4
 ·intro j v hv
  by_cases hj:j<n
  ·obtain ⟨x',y',h1,h2,h3,_⟩:=key j hj
   simp [hj] at hv
   rw [h2,<-hv]
   simp [Array.getElem?_eq_some_iff.1 h2 |>.1,(Array.getElem?_eq_some_iff.1 h2).2]
  ·simp [hj] at hv
theorem qd {g o:Nat} {c:Array Value} {t:TypeId} {fr:Nat×Nat} (hg:w.heap[g]?=some (.cells c t fr)):w.cell? ⟨g,o,none⟩=c[o]?:=by
 simp [World.cell?,hg]
theorem Lz {g o n:Nat} {c:Array Value} {t:TypeId} {fr:Nat×Nat} {ys:List Value} (hg:w.heap[g]?=some (.cells c t fr)) (hl:ys.length=n) (hy:∀j v,ys[j]?=some v->c[o+j]?=some v):
  (loadCells ⟨g,o,none⟩ n).run P w=.ok ys.toArray w:=by
 subst hl
 exact run_loadCells_list w _ ys λj v hj=>by rw [Addr.add_lit,qd hg];exact hy j v hj
theorem Cl (H:ar P ρ h w) {t:TypeId} {d:TypeDesc} {a a' v:Value} (ht:P.underlying t=some d) (hk:cB P t=true) (hi:ax (fw d) (P.cellsOf t) h a=some v) (ha:af ρ a a'):
  ∃v',(Instr.loadAt t a').run P w=.ok v' w/\af ρ v v':=by
 unfold ax at hi
 split at hi
 ·rename_i i o
  obtain ⟨r,hr,rfl⟩:=ha.oS
  simp only [bind_eq_some_iff] at hi
  obtain ⟨xs,hx,hp⟩:=hi
  obtain ⟨c,_,fr,hb,hc⟩:=H.cells hr hx
  unfold dv at hp
  cases hd:fw d
  ·rw [hd] at hp
   simp at hp
   obtain ⟨h1,y,hy,hv⟩:=hc o v hp
   refine ⟨y,?_,hv⟩
   have:w.cell? ⟨r.aD,r.sh+o,none⟩=some y:=by rw [qd hb,hy]
   simp [Instr.loadAt,Instr.sureAddr,loadVar,we w ht,hd,this]
  ·rw [hd] at hp
   simp at hp
   obtain ⟨hl,rfl⟩:=hp
   obtain ⟨ys,h1,h2,h3,h4⟩:=hc.wA hl
   refine ⟨.agg ys.toArray,?_,.nr h1 h3⟩
   simp [Instr.loadAt,Instr.sureAddr,loadVar,we w ht,hd,gw w hk,Lz (P:=P) hb h2 h4]
 ·cases hi
theorem rQ (H:ar P ρ h w) {aL:Nat} {x x':Value} {cs:List Value} (hs:dj h aL x=some cs) (hx:af ρ x x'):
  (x'=.slice none 0 0/\cs=[])∨(∃b o n c',x'=.slice (some ⟨b,o,none⟩) n c'/\fL x=some n/\cs.length=n*aL/\(∀v∈cs,cL v=true)/\
   ∃ys,aC ρ cs ys/\∀j v,ys[j]?=some v->w.cell? ⟨b,o+j,none⟩=some v):=by
 unfold dj at hs
 split at hs
 ·simp at hs;subst hs
  cases hx
  exact .inl ⟨rfl,rfl⟩
 ·rename_i i o e n c
  cases hx with
  | slice hr ho hn hc hb=>
   rename_i o' c' r
   split at hs
   ·rename_i h0
    simp at hs;subst hs;subst h0
    exact .inr ⟨_,_,_,_,rfl,rfl,by simp,by simp,[],.nil,by simp⟩
   ·rename_i h0
    simp only [bind_eq_some_iff] at hs
    obtain ⟨xs,hx,hl⟩:=hs
    split at hl
    ·rename_i hle
     simp at hl;subst hl
     obtain ⟨c,_,fr,hQ,hc⟩:=H.cells hr hx
     obtain ⟨ys,h1,h2,h3,h4⟩:=hc.wA hle
     have bg:o'=r.sh+o:=by
      rcases ho with ho | ⟨q1,q2,q3⟩
      ·exact ho
      ·omega
     subst bg
     refine .inr ⟨_,_,_,_,rfl,rfl,by simp;omega,h3,ys,h1,?_⟩
     intro j v hj
     rw [qd hQ]
     exact h4 j v hj
    ·cases hl
 ·cases hs
theorem Aw:∀{cs:List Value} {l:List UInt8},cs.mapM jR=some l->∃ns:List Int,cs=ns.map (Value.int .u8)/\l=ns.map λn=>UInt8.ofNat n.toNat
 | [],l,h=>by simp at h;subst h;exact ⟨[],rfl,rfl⟩
 | c::cs,l,h=>by
  simp only [List.mapM_cons,Option.bind_eq_bind,bind_eq_some_iff] at h
  obtain ⟨b,hb,bs,GX,h⟩:=h
  simp at h;subst h
  obtain ⟨ns,rfl,rfl⟩:=Aw GX
  unfold jR at hb
  split at hb
  ·rename_i n
   simp at hb;subst hb
   exact ⟨n::ns,rfl,rfl⟩
  ·cases hb
theorem aC.ints {ns:List Int} {k:IntKind} {ys:List Value} (h:aC ρ (ns.map (Value.int k)) ys):ys=ns.map (Value.int k):=by
 induction ns generalizing ys with
 | nil=>cases h;rfl
 | cons n ns ih=>
  cases h with
  | cons a b=>rw [a.dX,ih b];rfl
theorem JJ (ns:List Int):∀(s:ByteArray),ns.foldl (λr n=>r.push (UInt8.ofNat n.toNat)) s=⟨(bytes s++ns.map λn=>UInt8.ofNat n.toNat).toArray⟩:=by
 induction ns with
 | nil=>intro s;simp [mP]
 | cons n ns ih=>
  intro s
  rw [List.foldl_cons,ih]
  simp [bytes]
theorem K6 (H:ar P ρ h w) {x x' v:Value} (hi:fI h x=some v) (hx:af ρ x x'):(Conv.bytesToString x').run P w=.ok v w/\af ρ v v:=by
 unfold fI at hi
 simp only [bind_eq_some_iff,map_eq_some_iff] at hi
 obtain ⟨cs,hs,l,hl,rfl⟩:=hi
 refine ⟨?_,af.S _ _⟩
 obtain ⟨ns,rfl,rfl⟩:=Aw hl
 rcases rQ H hs hx with ⟨rfl,h0⟩ | ⟨b,o,n,c',rfl,_,hlen,_,ys,hy,mz⟩
 ·have:ns=[]:=by simpa using h0
  subst this
  simp [Conv.bytesToString,S]
  rfl
 ·have e:=hy.ints
  subst e
  simp at hlen
  have Hq:(loadCells ⟨b,o,none⟩ n).run P w=.ok (ns.map (Value.int .u8)).toArray w:=by
   have:=run_loadCells_list (P:=P) w ⟨b,o,none⟩ (ns.map (Value.int .u8)) (λj v hj=>by rw [Addr.add_lit];exact mz j v hj)
   simpa [hlen] using this
  rw [run_bytesToString w _ n c' ns Hq,JJ]
  rfl
end
end
section
theorem zZ {a b:Value} (h:mL a b=true):a=b:=by
 unfold mL at h
 split at h
 ·simp only [and_eq_true,decide_eq_true_eq] at h;rw [h.1,h.2]
 ·cases h
theorem Aa:∀{a b:List Value},mM a b=true->a=b
 | [],[],_=>rfl
 | a::jQ,b::bs,h=>by
  simp only [mM,and_eq_true] at h
  rw [zZ h.1,Aa h.2]
 | [],_::_,h=>by cases h
 | _::_,[],h=>by cases h
theorem Ab {k:IntKind}:∀{a:List Value},(∀v∈a,fa k v=true)->mM a a=true
 | [],_=>rfl
 | a::jQ,h=>by
  simp only [mM,and_eq_true]
  refine ⟨?_,Ab λv hv=>h v (by simp [hv])⟩
  have:=h a (by simp)
  unfold fa at this
  split at this
  ·simp [mL]
  ·cases this
theorem zl {a b:Value} (h:jZ a b=true):a=b:=by
 unfold jZ at h
 split at h
 ·rename_i s t
  simp at h
  have:=mP s
  rw [h,mP] at this
  rw [this]
 ·rw [ext' (Aa h)]
 ·exact zZ h
theorem GG {g:ca} {a:Value} (h:bT g a=true):jZ a a=true:=by
 unfold bT at h
 split at h
 ·unfold fa at h
  split at h
  ·simp [jZ,mL]
  ·cases h
 ·simp [jZ]
 ·simp only [and_eq_true,all_eq_true] at h
  exact Ab λv hv=>(h.2 v hv).1
 ·cases h
theorem GF {g:ca} {a b:Value} (h:bT g a=true):jZ a b=true↔a=b:=⟨zl,λe=>e ▸ GG h⟩
theorem rB {g:ca} {k:Value} (hk:bT g k=true):∀es:List (Nat×Value×Value),(gR k es=none/\∀e∈es,e.2.1≠k)∨∃j e,gR k es=some j/\es[j]?=some e/\e.2.1=k
 | []=>.inl ⟨rfl,by simp⟩
 | (b,k',v)::es=>by
  simp only [gR]
  by_cases h:jZ k k'=true
  ·rw [if_pos h]
   exact .inr ⟨0,(b,k',v),rfl,rfl,(zl h).symm⟩
  ·rw [if_neg h]
   rcases rB hk es with ⟨h1,h2⟩ | ⟨j,e,h1,h2,h3⟩
   ·refine .inl ⟨by rw [h1];rfl,?_⟩
    intro e he
    rcases List.mem_cons.1 he with rfl | he
    ·intro e'
     exact h ((GF hk).2 e'.symm)
    ·exact h2 e he
   ·exact .inr ⟨j+1,e,by rw [h1];rfl,by simpa using h2,h3⟩
structure ph (P:Program) (kt:TypeId) (g:ca):Prop where
 check:∀(w:World) (em:Bool) (v:Value),bT g v=true->(Instr.checkKey em 10000 kt v).run P w=.ok () w
 find:∀(w:World) (x:Value),bT g x=true->∀es:List MapEntry,(∀e∈es,bT g e.key=true)->
  ((Instr.findKey kt x es).run P w=.ok none w/\∀e∈es,e.key≠x)∨∃j e,(Instr.findKey kt x es).run P w=.ok (some (j,e.val)) w/\es[j]?=some e/\e.key=x
 stays:∀(w:World) (v:Value),bT g v=true->(Instr.keyThatStays v v).run P w=.ok v w
theorem B0 {P:Program} {kt:TypeId} {g:ca} {d:TypeDesc} (hd:P.underlying kt=some d) (hg:∀v,bT g v=true->MapKept.IsKey d v):ph P kt g where
 check w em v hv:=MapKept.run_checkKey hd (hg v hv) em 9999
 find w x hx es dU:=by
  rcases MapKept.findNow_spec (hg x hx) es 0 (λe he=>hg _ (dU e he)) with ⟨h1,h2⟩ | ⟨j,e,h1,h2,h3⟩
  ·exact .inl ⟨MapKept.run_findKey hd h1,h2⟩
  ·exact .inr ⟨j,e,by simpa using MapKept.run_findKey hd h1,h2,h3⟩
 stays w v hv:=MapKept.run_keyThatStays (hg v hv)
section
variable {P : Program}
theorem Ac {k:IntKind} {e:TypeId} {D:Nat} (he:P.underlying e=some (.int k)) (hc:P.cellsOf e=1) (cs:List Value) (h:∀v∈cs,(fa k v&&uY k v)=true):
  ∀m,m<=cs.length->∃ls,((List.range m).mapM λi=>P.keyLits (D+1) e ((cs.drop (i*P.cellsOf e)).take (P.cellsOf e)))=some ls
 | 0,_=>⟨[],rfl⟩
 | m+1,hm=>by
  obtain ⟨ls,n7⟩:=Ac he hc cs h m (by omega)
  have od:m<cs.length:=by omega
  have hv:=h cs[m] (List.getElem_mem od)
  rw [and_eq_true] at hv
  have h1:(cs.drop (m*P.cellsOf e)).take (P.cellsOf e)=[cs[m]]:=by
   rw [hc,Nat.mul_one]
   apply List.ext_getElem?
   intro i
   rw [List.getElem?_take]
   cases i with
   | zero=>simp [od]
   | succ i=>simp
  generalize cs[m]=v at hv h1
  obtain ⟨k',n,rfl⟩:∃k' n,v=.int k' n:=by
   cases v <;> first | exact ⟨_,_,rfl⟩ | simp [fa] at hv
  have hk:k'=k:=by simpa [fa] using hv.1
  subst hk
  have hr:k'.min<=n/\n<=k'.max:=by simpa [uY] using hv.2
  have hw:(Lit.int k' n).wf=true:=by simp [Lit.wf,hr]
  refine ⟨ls++[[.int k' n]],?_⟩
  rw [List.range_succ,List.mapM_append,n7]
  simp [h1,Program.keyLits,he,hw]
theorem IL {kt e:TypeId} {n:Nat} {k:IntKind} (hu:P.underlying kt=some (.array n e)) (he:P.underlying e=some (.int k)) (zv:P.cellsOf e=1) (tS:P.cellsOf kt=n) (ft:P.types.size≠0):ph P kt (.ints n k):=by
 have A:WideMaps.ArrKey P kt e n:=⟨hu,by simp [Program.plainKey,he],zv,tS⟩
 have key:∀v,bT (.ints n k) v=true->∃l,keyOf P kt v=some l:=by
  intro v hv
  cases v <;> simp [bT] at hv
  rename_i cs
  obtain ⟨h1,h2⟩:=hv
  have Hp:=A.keyType ⟨P.types.size-1,by omega⟩
  obtain ⟨D,hD⟩:∃D,P.types.size=D+1:=⟨P.types.size-1,by omega⟩
  obtain ⟨ls,n7⟩:=Ac (D:=D) he zv cs.toList (λv hv=>by obtain ⟨i,hi,e⟩:=List.mem_iff_getElem.1 hv;have:=h2 i (by simpa using hi);rw [<-e];simpa using this) n (by simp [h1])
  refine ⟨.string (keyBytes ls.flatten),?_⟩
  unfold keyOf
  rw [hu]
  have hf:(Value.agg cs).formed P kt=true:=by simp [Value.formed,hu,tS,h1]
  simp only [Hp,hf,Bool.and_self,if_true]
  unfold Program.keyLits
  rw [hu]
  have hl:(Value.agg cs).cells.toList.length=P.cellsOf kt:=by simp [Value.cells,tS,h1]
  simp only [hl,if_true,hD]
  have:(Value.agg cs).cells.toList=cs.toList:=rfl
  rw [this,n7]
  rfl
 have K:=A.law
 exact {
  check:=λw em v hv=>let ⟨l,hl⟩:=key v hv;K.check w em hl
  find:=λw x hx es dU=>let ⟨l,hl⟩:=key x hx;K.find w hl es λe he=>key _ (dU e he)
  stays:=λw v hv=>let ⟨l,hl⟩:=key v hv;K.stays w hl }
theorem qA {t:TypeId} {g:ca} (h:gG P t=some g):∃kt et,P.underlying t=some (.map kt et)/\ph P kt g:=by
 unfold gG at h
 split at h
 ·rename_i kt et ht
  refine ⟨kt,et,ht,?_⟩
  split at h
  ·cases h
  ·split at h
   ·rename_i hk
    simp at h;subst h
    exact B0 hk λv hv=>by cases v <;> simp [bT] at hv;trivial
   ·rename_i k hk
    simp at h;subst h
    exact B0 hk λv hv=>by cases v <;> simp [bT,fa] at hv;exact hv
   ·rename_i n e hk
    split at h
    ·rename_i k he
     split at h
     ·rename_i hc
      simp at h;subst h
      simp at hc
      exact IL hk he hc.1.1 hc.1.2 (by rw [Ne,Array.size_eq_zero_iff];exact hc.2)
     ·cases h
    ·cases h
   ·cases h
 ·cases h
end
section
variable {P : Program} {w : World} {ρ : ai} {h : ad}
structure gV (ρ:ai) (g:ca) (es:List (Nat×Value×Value)) (aj:Array MapEntry):Prop where
 size:aj.size=es.length
 nodup:(es.map λe=>e.2.1).Nodup
 get:∀(j b:Nat) (k v:Value),es[j]?=some (b,k,v)->bT g k=true/\∃en,aj[j]?=some en/\en.key=k/\en.born=b/\af ρ v en.val
theorem ar.nG (H:ar P ρ h w) {i:Nat} {r:RI} {g:ca} {c:Nat} {es:List (Nat×Value×Value)} (hi:ρ i=some r) (he:h[i]?=some (.cq g c es)):
  ∃aj,w.heap[r.aD]?=some (.map aj c)/\gV ρ g es aj:=by
 obtain ⟨o,ho,hr⟩:=H.obj i r hi
 rw [he] at ho
 cases ho
 obtain ⟨h0,aj,h1,h2,h3⟩:=hr
 exact ⟨aj,h1,h2,h0,h3⟩
theorem gV.inv {g:ca} {es:List (Nat×Value×Value)} {aj:Array MapEntry} (E:gV ρ g es aj) {j:Nat} {en:MapEntry} (hj:aj[j]?=some en):∃v,es[j]?=some (en.born,en.key,v)/\bT g en.key=true/\af ρ v en.val:=by
 have hlt:j<es.length:=by rw [<-E.size];exact (Array.getElem?_eq_some_iff.1 hj).1
 obtain ⟨b,k,v⟩:Nat×Value×Value:=es[j]
 have dU:=List.getElem?_eq_getElem hlt
 generalize he:es[j]=x at dU
 obtain ⟨b,k,v⟩:=x
 obtain ⟨g1,zb,g2,g3,g4,g5⟩:=E.get j b k v dU
 rw [hj] at g2
 cases g2
 subst g3;subst g4
 exact ⟨v,dU,g1,g5⟩
theorem v8 {g:ca} {kt:TypeId} {es:List (Nat×Value×Value)} {aj:Array MapEntry} (L:ph P kt g) (E:gV ρ g es aj) {k:Value} (hk:bT g k=true):
  ((gR k es=none/\(∀e∈es,e.2.1≠k))/\(Instr.findKey kt k aj.toList).run P w=.ok none w)∨
  ∃j b v en,gR k es=some j/\es[j]?=some (b,k,v)/\aj[j]?=some en/\en.key=k/\en.born=b/\af ρ v en.val/\(Instr.findKey kt k aj.toList).run P w=.ok (some (j,en.val)) w:=by
 have dT:∀e∈aj.toList,bT g e.key=true:=by
  intro e he
  obtain ⟨j,hj,e'⟩:=List.mem_iff_getElem.1 he
  have:aj[j]?=some e:=by
   rw [<-getElem?_toList,List.getElem?_eq_getElem hj,e']
  exact (E.inv this).choose_spec.2.1
 rcases L.find w k hk aj.toList dT with ⟨h1,h2⟩ | ⟨j,en,h1,h2,h3⟩
 ·rcases rB hk es with ⟨p1,p2⟩ | ⟨j,e,p1,p2,p3⟩
  ·exact .inl ⟨⟨p1,p2⟩,h1⟩
  ·exfalso
   obtain ⟨b,k',v⟩:=e
   obtain ⟨_,en,q1,q2,_⟩:=E.get j b k' v p2
   have hm:en∈aj.toList:=by
    rw [<-getElem?_toList] at q1
    exact mem_of_getElem? q1
   exact h2 en hm (q2.trans p3)
 ·have zq:aj[j]?=some en:=by rw [<-getElem?_toList];exact h2
  obtain ⟨v,q1,q2,q3⟩:=E.inv zq
  rcases rB hk es with ⟨p1,p2⟩ | ⟨j',e,p1,p2,p3⟩
  ·exact absurd h3 (p2 _ (mem_of_getElem? q1))
  ·have hj:j'=j:=by
    have hn:=List.pairwise_iff_getElem.1 E.nodup
    have l1:j<es.length:=(bw q1).1
    have l2:j'<es.length:=(bw p2).1
    have k1:(es.map λe=>e.2.1)[j]'(by simpa using l1)=k:=by
     have:=(bw q1).2
     simp [this,h3]
    have k2:(es.map λe=>e.2.1)[j']'(by simpa using l2)=k:=by
     have:=(bw p2).2
     simp [this,p3]
    rcases Nat.lt_trichotomy j j' with hlt | heq | hlt
    ·exact absurd (k1.trans k2.symm) (hn j j' _ _ hlt)
    ·exact heq.symm
    ·exact absurd (k2.trans k1.symm) (hn j' j _ _ hlt)
   subst hj
   exact .inr ⟨_,_,v,en,p1,by rw [q1,h3],zq,h3,rfl,q3,h1⟩
theorem lY.rel {z:Value} (h:lY z=true):af ρ z z:=by
 unfold lY at h
 split at h
 ·rename_i cs
  rw [all_eq_true] at h
  have cl:∀x∈cs.toList,ez x=true/\cL x=true:=λx hx=>by have:=h x hx;simpa [mf] using this
  refine .agg rfl (λx hx=>(cl x hx).2) (λk x x' hx b0=>?_)
  rw [hx] at b0
  cases b0
  exact ez.rel (cl x (by rw [<-getElem?_toList] at hx;exact mem_of_getElem? hx)).1
 ·exact ez.rel h
theorem Ld (H:ar P ρ h w) {it Ah v:Value} (hi:qT h it=some v) (hv:af ρ it Ah):∃v',(Instr.entry Ah).run P w=.ok v' w/\af ρ v v':=by
 unfold qT at hi
 split at hi
 ·rename_i j
  split at hi
  ·rename_i i rN seen last hit
   split at hi
   ·rename_i g c es b dU hb
    split at hi
    ·rename_i bL
     subst bL
     cases hv with
     | ptr hr=>
      rename_i r
      obtain ⟨o,ho,hrel⟩:=H.obj j r hr
      rw [hit] at ho
      cases ho
      obtain ⟨Ib,rm,H5,hQ⟩:=hrel
      obtain ⟨aj,hm,E⟩:=H.nG H5 dU
      rw [Ib]
      rw [map_eq_some_iff] at hi
      obtain ⟨e,he,rfl⟩:=hi
      have Ha:∃en,aj.find? (λx=>x.born==b)=some en/\en.key=e.2.1/\bT g e.2.1=true/\af ρ e.2.2 en.val:=by
       rw [<-Array.find?_toList]
       have key:∀(l1:List (Nat×Value×Value)) (l2:List MapEntry),l2.length=l1.length->(∀(j b:Nat) (k v:Value),l1[j]?=some (b,k,v)->bT g k=true/\∃en,l2[j]?=some en/\en.key=k/\en.born=b/\af ρ v en.val)->
         l1.find? (λx=>x.1==b)=some e->∃en,l2.find? (λx=>x.born==b)=some en/\en.key=e.2.1/\bT g e.2.1=true/\af ρ e.2.2 en.val:=by
        intro l1
        induction l1 with
        | nil=>intro l2 _ _ h;simp at h
        | cons x l1 ih=>
         intro l2 hl dT hf
         obtain ⟨bx,kx,vx⟩:=x
         cases l2 with
         | nil=>simp at hl
         | cons y l2=>
          obtain ⟨g1,en,g2,g3,g4,g5⟩:=dT 0 bx kx vx rfl
          simp at g2
          subst g2
          rw [List.find?_cons] at hf⊢
          by_cases my:(bx==b)=true
          ·simp only [my] at hf
           cases hf
           rw [g4]
           simp only [my]
           exact ⟨y,rfl,g3,g1,g5⟩
          ·have my:(bx==b)=false:=by simpa using my
           simp only [my] at hf
           rw [g4]
           simp only [my]
           exact ih l2 (by simpa using hl) (λj b k v hj=>by simpa using dT (j+1) b k v (by simpa using hj)) hf
       exact key es aj.toList (by simp [E.size]) (λj b k v hj=>by simpa using E.get j b k v hj) he
      obtain ⟨en,f1,f2,f3,f4⟩:=Ha
      have az:(getObj r.aD).run P w=.ok (.mapIter (some rm.aD) rN seen.toArray c) w:=by simp [getObj,Sem.run,hQ]
      have Hb:(getObj rm.aD).run P w=.ok (.map aj c) w:=by simp [getObj,Sem.run,hm]
      have kR:seen.toArray.back?=some b:=by simpa using hb
      refine ⟨.tuple #[en.key,en.val],?_,?_⟩
      ·unfold Instr.entry
       simp [az,Hb,hb,f1]
      ·rw [f2]
       have Ho:af ρ e.2.1 e.2.1:=by
        have ints:∀{kd:IntKind} {v:Value},fa kd v=true->af ρ v v/\cL v=true:=by
         intro kd v hv
         cases v <;> simp [fa] at hv
         exact ⟨.int _ _,rfl⟩
        cases zF:e.2.1 with
        | int kd n=>exact .int _ _
        | string s=>exact .string _
        | agg cs=>
         rw [zF] at f3
         cases g with
         | ints n kd=>
          simp only [bT,and_eq_true,all_eq_true] at f3
          refine .agg rfl (λx hx=>(ints (f3.2 x hx).1).2) (λk x x' hx b0=>?_)
          rw [hx] at b0
          cases b0
          exact (ints (f3.2 x (by rw [<-getElem?_toList] at hx;exact mem_of_getElem? hx)).1).1
         | int _=>simp [bT,fa] at f3
         | str=>simp [bT] at f3
        | _=>rw [zF] at f3;cases g <;> simp [bT,fa] at f3
       exact af.iV (.cons Ho (.cons f4 .nil))
    ·cases hi
   ·cases hi
  ·cases hi
 ·cases hi
theorem Mg {t:TypeId} {z:Value} (hz:r6 P t=some z):(∀w,(zeroValue t).run P w=.ok z w)/\lY z=true:=by
 unfold r6 at hz
 split at hz
 ·rename_i i hi
  split at hz
  ·rename_i z' uz
   split at hz
   ·rename_i hc
    simp at hz;subst hz
    exact ⟨λw=>lL w hi uz,hc⟩
   ·cases hz
  ·cases hz
 ·cases hz
theorem af.key {g:ca} {k k':Value} (hk:bT g k=true) (h:af ρ k k'):k'=k:=by
 have ints:∀{kd:IntKind} {v v':Value},fa kd v=true->af ρ v v'->v'=v:=by
  intro kd v v' hv hr
  cases hr <;> first | rfl | simp [fa] at hv
 cases h with
 | int=>rfl
 | string=>rfl
 | agg hs _ dT=>
  rename_i xs xs' _
  cases g with
  | ints n kd=>
   simp only [bT,and_eq_true,all_eq_true] at hk
   congr 1
   apply Array.ext
   ·exact hs.symm
   ·intro i h1 h2
    exact ints (hk.2 xs[i] (by simp)).1 (dT i _ _ (getElem?_eq_getElem h2) (getElem?_eq_getElem h1))
  | int _=>simp [bT,fa] at hk
  | str=>simp [bT] at hk
 | _=>cases g <;> simp [bT,fa] at hk
theorem Ll (H:ar P ρ h w) {t kt et:TypeId} {g:ca} {ok:Bool} {z m m' k k' v:Value} (hg:gG P t=some g) (ht:P.underlying t=some (.map kt et)) (hz:r6 P et=some z)
  (hi:qW g ok z h m k=some v) (hm:af ρ m m') (gh:af ρ k k'):∃v',(Instr.lookup t m' k' ok).run P w=.ok v' w/\af ρ v v':=by
 obtain ⟨MO,Mv,zP,L⟩:=qA hg
 rw [ht] at zP
 cases zP
 unfold qW at hi
 split at hi
 ·rename_i i
  cases hm with
  | map hr=>
   rename_i r
   split at hi
   ·rename_i g' c es he
    split at hi
    ·rename_i fH
     obtain ⟨rfl,hk⟩:=fH
     rw [gh.key hk]
     have Ci:∀{aj:Array MapEntry} {clock:Nat},w.heap[r.aD]?=some (.map aj clock)->(getObj r.aD).run P w=.ok (.map aj clock) w:=by
      intro aj clock hb
      simp [getObj,Sem.run,hb]
     obtain ⟨aj,hb,E⟩:=H.nG hr he
     obtain ⟨oB,hz2⟩:=Mg hz
     rcases v8 (w:=w) L E hk with ⟨⟨e1,_⟩,e2⟩ | ⟨j,b,u,en,e1,e2,e3,e4,e5,e6,e7⟩
     ·have:kJ k es=none:=by simp [kJ,e1]
      rw [this] at hi
      simp at hi
      have cf:(Instr.lookup t (.map (some r.aD)) k ok).run P w=.ok (if ok then .tuple #[z,.bool false] else z) w:=by
       simp [Instr.lookup,run_underlying ht,Ci hb,L.check w _ k hk,e2,oB]
      refine ⟨_,cf,?_⟩
      subst hi
      cases ok
      ·exact lY.rel hz2
      ·exact af.iV (.cons (lY.rel hz2) (.cons (.bool _) .nil))
     ·have:kJ k es=some u:=by simp [kJ,e1,e2]
      rw [this] at hi
      simp at hi
      have cf:(Instr.lookup t (.map (some r.aD)) k ok).run P w=.ok (if ok then .tuple #[en.val,.bool true] else en.val) w:=by
       simp [Instr.lookup,run_underlying ht,Ci hb,L.check w _ k hk,e7]
      refine ⟨_,cf,?_⟩
      subst hi
      cases ok
      ·exact e6
      ·exact af.iV (.cons e6 (.cons (.bool _) .nil))
    ·cases hi
   ·cases hi
 ·cases hi
end
end
section
inductive fC (ρ:ai):List (ByteArray×Value)->List MapEntry->Prop
 | nil:fC ρ [] []
 | cons {k:ByteArray} {v:Value} {en:MapEntry} {es:List (ByteArray×Value)} {aj:List MapEntry}:en.key=.string k->af ρ v en.val->fC ρ es aj->fC ρ ((k,v)::es) (en::aj)
theorem fC.of {ρ:ai}:∀{es:List (ByteArray×Value)} {aj:List MapEntry},aj.length=es.length->
  (∀(j:Nat) (k:ByteArray) (v:Value),es[j]?=some (k,v)->∃en,aj[j]?=some en/\en.key=.string k/\af ρ v en.val)->fC ρ es aj
 | [],[],_,_=>.nil
 | (k,v)::es,en::aj,hl,h=>by
  obtain ⟨zb,h1,h2,h3⟩:=h 0 k v rfl
  simp at h1;subst h1
  exact .cons h2 h3 (fC.of (by simpa using hl) λj k' v' hj=>by simpa using h (j+1) k' v' (by simpa using hj))
theorem fC.to {ρ:ai} {es:List (ByteArray×Value)} {aj:List MapEntry} (h:fC ρ es aj):
  aj.length=es.length/\∀(j:Nat) (k:ByteArray) (v:Value),es[j]?=some (k,v)->∃en,aj[j]?=some en/\en.key=.string k/\af ρ v en.val:=by
 induction h with
 | nil=>exact ⟨rfl,λj k v hj=>by simp at hj⟩
 | cons h1 h2 _ ih=>
  refine ⟨by simp [ih.1],?_⟩
  intro j k v hj
  cases j with
  | zero=>simp at hj;obtain ⟨rfl,rfl⟩:=hj;exact ⟨_,rfl,h1,h2⟩
  | succ j=>simp at hj;simpa using ih.2 j k v hj
theorem Gr {ρ:ai} {es:List (ByteArray×Value)} {aj:List MapEntry} (h:fC ρ es aj) (k:ByteArray):∀i:Nat,
  (ji k es=none/\Instr.findNow .string (.string k) aj i=some none)∨
  (∃v v' j,ji k es=some v/\Instr.findNow .string (.string k) aj i=some (some (i+j,v'))/\af ρ v v'/\(∃en,aj[j]?=some en/\en.key=.string k)):=by
 induction h with
 | nil=>intro i;exact .inl ⟨rfl,rfl⟩
 | cons h1 h2 _ ih=>
  rename_i k0 v0 en es aj _
  intro i
  by_cases hk:k=k0
  ·subst hk
   refine .inr ⟨v0,en.val,0,by simp [ji],?_,h2,en,rfl,h1⟩
   have hb:(k==k)=true:=(MapKept.bytes_beq k k).2 rfl
   simp [Instr.findNow,h1,Instr.sameNow,hb]
  ·have hb:(k==k0)=false:=by
    rw [Bool.eq_false_iff]
    exact λe=>hk ((MapKept.bytes_beq k k0).1 e)
   rcases ih (i+1) with ⟨e1,e2⟩ | ⟨v,v',j,e1,e2,e3,e4⟩
   ·refine .inl ⟨by simp [ji,hk,e1],?_⟩
    simp [Instr.findNow,h1,Instr.sameNow,hb,e2]
   ·refine .inr ⟨v,v',j+1,by simp [ji,hk,e1],?_,e3,?_⟩
    ·simp [Instr.findNow,h1,Instr.sameNow,hb,e2];omega
    ·simpa using e4
inductive fD (kd:IntKind) (ρ:ai):List (Int×Value)->List MapEntry->Prop
 | nil:fD kd ρ [] []
 | cons {k:Int} {v:Value} {en:MapEntry} {es:List (Int×Value)} {aj:List MapEntry}:en.key=.int kd k->af ρ v en.val->fD kd ρ es aj->fD kd ρ ((k,v)::es) (en::aj)
theorem fD.of {kd:IntKind} {ρ:ai}:∀{es:List (Int×Value)} {aj:List MapEntry},aj.length=es.length->
  (∀(j:Nat) (k:Int) (v:Value),es[j]?=some (k,v)->∃en,aj[j]?=some en/\en.key=.int kd k/\af ρ v en.val)->fD kd ρ es aj
 | [],[],_,_=>.nil
 | (k,v)::es,en::aj,hl,h=>by
  obtain ⟨zb,h1,h2,h3⟩:=h 0 k v rfl
  simp at h1;subst h1
  exact .cons h2 h3 (fD.of (by simpa using hl) λj k' v' hj=>by simpa using h (j+1) k' v' (by simpa using hj))
theorem fD.to {kd:IntKind} {ρ:ai} {es:List (Int×Value)} {aj:List MapEntry} (h:fD kd ρ es aj):
  aj.length=es.length/\∀(j:Nat) (k:Int) (v:Value),es[j]?=some (k,v)->∃en,aj[j]?=some en/\en.key=.int kd k/\af ρ v en.val:=by
 induction h with
 | nil=>exact ⟨rfl,λj k v hj=>by simp at hj⟩
 | cons h1 h2 _ ih=>
  refine ⟨by simp [ih.1],?_⟩
  intro j k v hj
  cases j with
  | zero=>simp at hj;obtain ⟨rfl,rfl⟩:=hj;exact ⟨_,rfl,h1,h2⟩
  | succ j=>simp at hj;simpa using ih.2 j k v hj
theorem Gs {kd:IntKind} {ρ:ai} {es:List (Int×Value)} {aj:List MapEntry} (h:fD kd ρ es aj) (k:Int):∀i:Nat,
  (jh k es=none/\Instr.findNow (.int kd) (.int kd k) aj i=some none)∨
  (∃v v' j,jh k es=some v/\Instr.findNow (.int kd) (.int kd k) aj i=some (some (i+j,v'))/\af ρ v v'/\(∃en,aj[j]?=some en/\en.key=.int kd k)):=by
 induction h with
 | nil=>intro i;exact .inl ⟨rfl,rfl⟩
 | cons h1 h2 _ ih=>
  rename_i k0 v0 en es aj _
  intro i
  by_cases hk:k=k0
  ·subst hk
   refine .inr ⟨v0,en.val,0,by simp [jh],?_,h2,en,rfl,h1⟩
   have hb:(k==k)=true:=beq_self_eq_true k
   simp [Instr.findNow,h1,Instr.sameNow]
  ·have hb:(k==k0)=false:=by
    exact beq_false_of_ne hk
   rcases ih (i+1) with ⟨e1,e2⟩ | ⟨v,v',j,e1,e2,e3,e4⟩
   ·refine .inl ⟨by simp [jh,hk,e1],?_⟩
    simp [Instr.findNow,h1,Instr.sameNow,hb,e2]
   ·refine .inr ⟨v,v',j+1,by simp [jh,hk,e1],?_,e3,?_⟩
    ·simp [Instr.findNow,h1,Instr.sameNow,hb,e2];omega
    ·simpa using e4
section
variable {P : Program} {w : World} {ρ : ai} {h : ad}
theorem Ag {t:TypeId} (h:isString P t=true):P.underlying t=some .string:=by
 unfold isString at h
 split at h
 ·assumption
 ·cases h
theorem run_checkKey (b:Bool) {kt:TypeId} (hk:P.underlying kt=some .string) (k:ByteArray):(Instr.checkKey b 10000 kt (.string k)).run P w=.ok () w:=by
 rw [show (10000:Nat)=9999+1 from rfl,Instr.checkKey]
 simp [run_underlying hk]
theorem run_findKey {kt:TypeId} (hk:P.underlying kt=some .string) (k:ByteArray) (aj:List MapEntry) {r:Option (Nat×Value)} (hr:Instr.findNow .string (.string k) aj 0=some r):
  (Instr.findKey kt (.string k) aj).run P w=.ok r w:=by
 simp [Instr.findKey,run_underlying hk,hr]
theorem rJ (b:Bool) {kt:TypeId} {kd:IntKind} (hk:P.underlying kt=some (.int kd)) (k:Int):(Instr.checkKey b 10000 kt (.int kd k)).run P w=.ok () w:=by
 rw [show (10000:Nat)=9999+1 from rfl,Instr.checkKey]
 simp [run_underlying hk]
theorem rK {kt:TypeId} {kd:IntKind} (hk:P.underlying kt=some (.int kd)) (k:Int) (aj:List MapEntry) {r:Option (Nat×Value)} (hr:Instr.findNow (.int kd) (.int kd k) aj 0=some r):
  (Instr.findKey kt (.int kd k) aj).run P w=.ok r w:=by
 simp [Instr.findKey,run_underlying hk,hr]
theorem ar.aj (H:ar P ρ h w) {i:Nat} {r:RI} {es:List (ByteArray×Value)} (hi:ρ i=some r) (he:h[i]?=some (.smap es)):
  ∃aj clock,w.heap[r.aD]?=some (.map aj clock)/\fC ρ es aj.toList:=by
 obtain ⟨o,ho,hr⟩:=H.obj i r hi
 rw [he] at ho
 cases ho
 obtain ⟨aj,clock,h1,h2,h3⟩:=hr
 exact ⟨aj,clock,h1,fC.of (by simpa using h2) (by simpa using h3)⟩
theorem ar.zc (H:ar P ρ h w) {i:Nat} {r:RI} {kd:IntKind} {es:List (Int×Value)} (hi:ρ i=some r) (he:h[i]?=some (.dW kd es)):
  ∃aj clock,w.heap[r.aD]?=some (.map aj clock)/\fD kd ρ es aj.toList:=by
 obtain ⟨o,ho,hr⟩:=H.obj i r hi
 rw [he] at ho
 cases ho
 obtain ⟨aj,clock,h1,h2,h3⟩:=hr
 exact ⟨aj,clock,h1,fD.of (by simpa using h2) (by simpa using h3)⟩
theorem run_getObj_map {b:Nat} {aj:Array MapEntry} {clock:Nat} (hb:w.heap[b]?=some (.map aj clock)):(getObj b).run P w=.ok (.map aj clock) w:=by
 simp [getObj,Sem.run,hb]
theorem CH {t:TypeId} {z:Value} (hz:nc P t=some z):(∀w,(zeroValue t).run P w=.ok z w)/\ez z=true:=by
 unfold nc at hz
 split at hz
 ·rename_i i hi
  split at hz
  ·rename_i z' uz
   split at hz
   ·rename_i hc
    simp at hz;subst hz
    simp [mf] at hc
    exact ⟨λw=>lL w hi uz,hc.1⟩
   ·cases hz
  ·cases hz
 ·cases hz
theorem Lk (H:ar P ρ h w) {t kt et:TypeId} {ok:Bool} {z m m' k k' v:Value} (ht:P.underlying t=some (.map kt et)) (hk:isString P kt=true) (hz:nc P et=some z)
  (hi:qV ok z h m k=some v) (hm:af ρ m m') (gh:af ρ k k'):∃v',(Instr.lookup t m' k' ok).run P w=.ok v' w/\af ρ v v':=by
 unfold qV at hi
 split at hi
 ·rename_i i key
  rw [gh.iT]
  cases hm with
  | map hr=>
   rename_i r
   split at hi
   ·rename_i es he
    obtain ⟨aj,clock,hb,kX⟩:=H.aj hr he
    obtain ⟨oB,hz2⟩:=CH hz
    have eD:=Ag hk
    rcases Gr kX key 0 with ⟨e1,e2⟩ | ⟨u,u',j,e1,e2,e3,_⟩
    ·rw [e1] at hi
     simp at hi
     have cf:(Instr.lookup t (.map (some r.aD)) (.string key) ok).run P w=.ok (if ok then .tuple #[z,.bool false] else z) w:=by
      simp [Instr.lookup,run_underlying ht,run_getObj_map hb,run_checkKey _ eD,run_findKey eD key _ e2,oB]
     refine ⟨_,cf,?_⟩
     subst hi
     cases ok
     ·exact ez.rel hz2
     ·exact af.iV (.cons (ez.rel hz2) (.cons (.bool _) .nil))
    ·rw [e1] at hi
     simp at hi
     have cf:(Instr.lookup t (.map (some r.aD)) (.string key) ok).run P w=.ok (if ok then .tuple #[u',.bool true] else u') w:=by
      simp [Instr.lookup,run_underlying ht,run_getObj_map hb,run_checkKey _ eD,run_findKey eD key _ e2]
     refine ⟨_,cf,?_⟩
     subst hi
     cases ok
     ·exact e3
     ·exact af.iV (.cons e3 (.cons (.bool _) .nil))
   ·cases hi
 ·cases hi
theorem Ae {t:TypeId} {kd:IntKind} (h:lB P t=some kd):P.underlying t=some (.int kd):=by
 unfold lB at h
 split at h
 ·simp at h;subst h;assumption
 ·cases h
theorem Lm (H:ar P ρ h w) {t kt et:TypeId} {kd:IntKind} {ok:Bool} {z m m' k k' v:Value} (ht:P.underlying t=some (.map kt et)) (hk:lB P kt=some kd) (hz:nc P et=some z)
  (hi:qX kd ok z h m k=some v) (hm:af ρ m m') (gh:af ρ k k'):∃v',(Instr.lookup t m' k' ok).run P w=.ok v' w/\af ρ v v':=by
 unfold qX at hi
 split at hi
 ·rename_i i mN key
  rw [gh.dX]
  cases hm with
  | map hr=>
   rename_i r
   split at hi
   ·rename_i fb es he
    split at hi
    ·rename_i fH
     obtain ⟨rfl,rfl⟩:=fH
     obtain ⟨aj,clock,hb,kX⟩:=H.zc hr he
     obtain ⟨oB,hz2⟩:=CH hz
     have eD:=Ae hk
     rcases Gs kX key 0 with ⟨e1,e2⟩ | ⟨u,u',j,e1,e2,e3,_⟩
     ·rw [e1] at hi
      simp at hi
      have cf:(Instr.lookup t (.map (some r.aD)) (.int fb key) ok).run P w=.ok (if ok then .tuple #[z,.bool false] else z) w:=by
       simp [Instr.lookup,run_underlying ht,run_getObj_map hb,rJ _ eD,rK eD key _ e2,oB]
      refine ⟨_,cf,?_⟩
      subst hi
      cases ok
      ·exact ez.rel hz2
      ·exact af.iV (.cons (ez.rel hz2) (.cons (.bool _) .nil))
     ·rw [e1] at hi
      simp at hi
      have cf:(Instr.lookup t (.map (some r.aD)) (.int fb key) ok).run P w=.ok (if ok then .tuple #[u',.bool true] else u') w:=by
       simp [Instr.lookup,run_underlying ht,run_getObj_map hb,rJ _ eD,rK eD key _ e2]
      refine ⟨_,cf,?_⟩
      subst hi
      cases ok
      ·exact e3
      ·exact af.iV (.cons e3 (.cons (.bool _) .nil))
    ·cases hi
   ·cases hi
 ·cases hi
theorem Jl {o:Oper} {lo:fU} {g g':Operand->Value} (hc:jd P o.op=some lo) (ak:o.op.operands.all di=true) (H:ar P ρ h w)
  (hg:∀x,di x=true->af ρ (g x) (g' x)) {v:Value} (hi:bM lo g h=some v):∃v',(execOp g' o).run P w=.ok (.value v') w/\af ρ v v':=by
 cases ho:o.op with
 | load t a=>
  rw [ho] at hc ak
  simp [Op.operands] at ak
  simp only [jd] at hc
  split at hc
  ·rename_i d ht
   split at hc
   ·rename_i hk
    simp at hc;subst hc
    simp only [and_eq_true] at hk
    obtain ⟨v',h1,h2⟩:=Cl H ht hk.1 hi (hg a ak)
    exact ⟨v',by simp [execOp,ho,h1],h2⟩
   ·cases hc
  ·cases hc
 | entry it=>
  rw [ho] at hc ak
  simp [Op.operands] at ak
  simp [jd] at hc;subst hc
  obtain ⟨v',h1,h2⟩:=Ld H hi (hg it ak)
  exact ⟨v',by simp [execOp,ho,h1],h2⟩
 | convert s d x=>
  rw [ho] at hc ak
  simp [Op.operands] at ak
  simp only [jd] at hc
  split at hc
  ·rename_i e hs hd
   split at hc
   ·rename_i he
    simp at hc;subst hc
    have hx:=hg x ak
    obtain ⟨h1,h2⟩:=K6 H hi hx
    refine ⟨v,?_,h2⟩
    have:(convert s d (g' x)).run P w=.ok v w:=by
     simp only [bM,fI,bind_eq_some_iff] at hi
     obtain ⟨cs,j4,_⟩:=hi
     rcases rQ H j4 hx with ⟨e1,_⟩ | ⟨b,o',n,c',e1,_⟩
     ·rw [e1] at h1⊢;rw [run_convert_bytes_string w s d e _ _ _ hs he hd];exact h1
     ·rw [e1] at h1⊢;rw [run_convert_bytes_string w s d e _ _ _ hs he hd];exact h1
    simp [execOp,ho,this]
   ·cases hc
  ·cases hc
 | lookup t m k ok=>
  rw [ho] at hc ak
  simp [Op.operands] at ak
  simp only [jd] at hc
  split at hc
  ·rename_i g dJ
   split at hc
   ·rename_i kt et ht
    simp only [map_eq_some_iff] at hc
    obtain ⟨z,hz,rfl⟩:=hc
    obtain ⟨v',h1,h2⟩:=Ll H dJ ht hz hi (hg m ak.1) (hg k ak.2)
    exact ⟨v',by simp [execOp,ho,h1],h2⟩
   ·cases hc
  split at hc
  ·rename_i kt et ht
   split at hc
   ·rename_i hk
    simp only [map_eq_some_iff] at hc
    obtain ⟨z,hz,rfl⟩:=hc
    obtain ⟨v',h1,h2⟩:=Lk H ht hk hz hi (hg m ak.1) (hg k ak.2)
    exact ⟨v',by simp [execOp,ho,h1],h2⟩
   ·simp only [bind_eq_some_iff,map_eq_some_iff] at hc
    obtain ⟨kd,fH,z,hz,rfl⟩:=hc
    obtain ⟨v',h1,h2⟩:=Lm H ht fH hz hi (hg m ak.1) (hg k ak.2)
    exact ⟨v',by simp [execOp,ho,h1],h2⟩
  ·cases hc
 | _=>rw [ho] at hc;simp [jd] at hc
end
end
section
theorem rM {xs:List Value} {o:Nat} {vs:List Value} (h:o+vs.length<=xs.length) (j:Nat):
  (setAt xs o vs)[j]?=if j<o then xs[j]? else if j<o+vs.length then vs[j-o]? else xs[j]?:=by
 have hl:(xs.take o).length=o:=by simp;omega
 unfold setAt
 by_cases h1:j<o
 ·rw [if_pos h1,List.append_assoc,getElem?_append_left (by omega),List.getElem?_take,if_pos h1]
 ·rw [if_neg h1]
  by_cases h2:j<o+vs.length
  ·rw [if_pos h2,List.append_assoc,List.getElem?_append_right (by omega),hl,getElem?_append_left (by omega)]
  ·rw [if_neg h2,List.getElem?_append_right (by simp;omega),List.getElem?_drop]
   congr 1
   simp
   omega
theorem wi {xs:List Value} {o:Nat} {vs:List Value} (h:o+vs.length<=xs.length):(setAt xs o vs).length=xs.length:=by
 unfold setAt
 simp
 omega
theorem bV.le {ρ:ai} {c:Array Value} {xs:List Value} (h:bV ρ c 0 xs):xs.length<=c.size:=by
 rcases Nat.eq_zero_or_pos xs.length with hz | hz
 ·omega
 ·have hx:xs[xs.length-1]?=some (xs[xs.length-1]'(by omega)):=List.getElem?_eq_getElem _
  obtain ⟨_,y,hy,_⟩:=h _ _ hx
  have:=(Array.getElem?_eq_some_iff.1 hy).1
  omega
theorem bV.put {ρ:ai} {c:Array Value} {xs:List Value} {o:Nat} {vs dm:List Value} (h:bV ρ c 0 xs) (hv:aC ρ vs dm) (h1:∀x∈vs,cL x=true) (hl:o+vs.length<=xs.length):
  bV ρ (setAt c.toList o dm).toArray 0 (setAt xs o vs):=by
 intro j x hj
 have bL:=h.le
 have hlen:=hv.length
 rw [rM hl] at hj
 have e:(setAt c.toList o dm).toArray[0+j]?=if j<o then c.toList[j]? else if j<o+dm.length then dm[j-o]? else c.toList[j]?:=by
  rw [zero_add,List.getElem?_toArray,rM (by simp;omega)]
 rw [e]
 by_cases zn:j<o
 ·rw [if_pos zn] at hj⊢
  obtain ⟨q1,y,q2,q3⟩:=h j x hj
  exact ⟨q1,y,by simpa using q2,q3⟩
 ·rw [if_neg zn] at hj⊢
  by_cases h2:j<o+vs.length
  ·rw [if_pos h2] at hj
   rw [if_pos (by omega)]
   obtain ⟨y,q2,q3⟩:=hv.get hj
   exact ⟨h1 x (mem_of_getElem? hj),y,q2,q3⟩
  ·rw [if_neg h2] at hj
   rw [if_neg (by omega)]
   obtain ⟨q1,y,q2,q3⟩:=h j x hj
   exact ⟨q1,y,by simpa using q2,q3⟩
theorem zh (z:List Value) (n:Nat):∀(j:Nat),j<n*z.length->(List.replicate n z).flatten[j]?=z[j%z.length]?:=by
 induction n with
 | zero=>intro j hj;simp at hj
 | succ n ih=>
  intro j hj
  rw [List.replicate_succ,List.flatten_cons]
  by_cases h:j<z.length
  ·rw [getElem?_append_left h,Nat.mod_eq_of_lt h]
  ·have e:j%z.length=(j-z.length)%z.length:=by rw [Nat.mod_eq_sub_mod (by omega)]
   rw [List.getElem?_append_right (by omega),ih _ (by rw [add_mul] at hj;omega),e]
theorem wP (z:List Value) (n:Nat):(dQ z n).length=n*z.length:=by
 induction n with
 | zero=>simp [dQ]
 | succ n ih=>simp only [dQ,List.replicate_succ,List.flatten_cons,List.length_append] at ih⊢;rw [ih,add_mul];omega
theorem CI {z:List Value} {n:Nat} {p:Value->Prop} (h:∀x∈z,p x):∀x∈dQ z n,p x:=by
 intro x hx
 simp only [dQ,List.mem_flatten,List.mem_replicate] at hx
 obtain ⟨l,⟨_,rfl⟩,hm⟩:=hx
 exact h x hm
theorem Av (z:Array Value) (m j:Nat) (hj:j<m) (hz:0<z.size):(madeCells z m)[j]?=z[j%z.size]?:=by
 have hlt:j%z.size<z.size:=Nat.mod_lt _ hz
 simp [madeCells,hj,hlt]
theorem Jo (z:Value) (n k:Nat) (hk:(aZ z).length=k):((Array.range (n*k)).map (z.cells[·%z.cells.size]!)).toList=dQ (aZ z) n:=by
 have hs:z.cells.size=k:=by rw [<-hk];simp [aZ]
 apply List.ext_getElem?
 intro j
 by_cases hj:j<n*k
 ·have hz:0<z.cells.size:=by
   rcases Nat.eq_zero_or_pos k with h | h
   ·subst h;simp at hj
   ·omega
  have:=Av z.cells (n*k) j hj hz
  simp only [madeCells] at this
  rw [getElem?_toList,this,dQ,zh _ _ _ (by rw [hk];exact hj)]
  simp [aZ]
 ·rw [List.getElem?_eq_none (by simp;omega),List.getElem?_eq_none (by rw [wP,hk];omega)]
section
variable {P : Program} {w : World} {ρ : ai} {h : ad}
def dy (P:Program) (ρ:ai) (h:ad) (w:World) (v:Value) (h':ad) (s:Result Next):Prop:=
 ∃nx w' ae v',s=.ok nx w'/\(nx=.value v'∨(nx=.skip/\v'=undef))/\af ae v v'/\ar P ae h' w'/\Tr ρ h w ae h' w'
theorem ar.arr (H:ar P ρ h w) {i:Nat} {r:RI} {e:TypeId} {xs:List Value} (hi:ρ i=some r) (hx:h[i]?=some (.arr e xs)):
  r.elem=e/\r.sh=0/\∃c,w.heap[r.aD]?=some (.cells c e (0,0))/\c.size=r.size/\bV ρ c 0 xs:=by
 obtain ⟨o,ho,hr⟩:=H.obj i r hi
 rw [hx] at ho
 cases ho
 exact hr
theorem Lw (H:ar P ρ h w) {t:TypeId} {a a' v v':Value} {h':ad} (hk:cB P t=true) (hi:jy (P.cellsOf t) h a v=some h') (ha:af ρ a a') (hv:af ρ v v'):
  ∃w',(Instr.storeAt t a' v').run P w=.ok () w'/\ar P ρ h' w'/\Tr ρ h w ρ h' w':=by
 unfold jy at hi
 split at hi
 ·rename_i i o
  obtain ⟨r,hr,rfl⟩:=ha.oS
  split at hi
  ·rename_i e xs hx
   split at hi
   ·rename_i hc
    obtain ⟨gM,hl,hle⟩:=hc
    simp at hi;subst hi
    obtain ⟨h1,h2,c,h3,h4,h5⟩:=H.arr hr hx
    have mI:=hv.cells gM
    have iN:(aZ v').length=P.cellsOf t:=by rw [<-mI.length];exact hl
    have bZ:=run_storeCells_at P r.aD o e (aZ v') 0 c w h3 (by have:=h5.le;simp;omega) (mI.oN (hv.qf gM))
    have heq:(c.toList.take (o+0)++aZ v'++c.toList.drop (o+0+(aZ v').length)).toArray=(setAt c.toList o (aZ v')).toArray:=by simp [setAt]
    rw [heq] at bZ
    have de:aI h i:=.inl ⟨e,xs,hx⟩
    obtain ⟨q1,q2⟩:=H.set (o:=.arr e (setAt xs o (aZ v))) hr de (eR.row h3 (setAt c.toList o (aZ v')).toArray)
     ⟨h1,h2,_,(eR.row h3 _).here,by simp [wi (show o+(aZ v').length<=c.toList.length by have:=h5.le;simp;omega),h4],h5.put mI (hv.qf gM) (by omega)⟩
    refine ⟨_,?_,q1,q2⟩
    have ft:v'.cells.size=P.cellsOf t:=by rw [<-iN];simp [aZ]
    have Ig:(storeCells ⟨r.aD,r.sh+o,none⟩ v'.cells.toList).run P w=.ok () (w.setRow r.aD (setAt c.toList o (aZ v')).toArray):=by
     rw [h2,zero_add]
     exact bZ
    simp [Instr.storeAt,Instr.sureAddr,storeVar,gw w hk,ft,Ig]
   ·cases hi
  ·cases hi
 ·cases hi
theorem oK (H:ar P ρ h w) {w':World} {e:TypeId} {c:Array Value} {xs:List Value} (nb:dn w (.cells c e) w') (hc:bV ρ c 0 xs):
  ar P (ρ.add h.length ⟨w.heap.size,0,e,P.cellsOf e,c.size⟩) (h++[.arr e xs]) w'/\Tr ρ h w (ρ.add h.length ⟨w.heap.size,0,e,P.cellsOf e,c.size⟩) (h++[.arr e xs]) w':=
 H.new nb rfl rfl rfl (λ_=>.inl rfl) ⟨rfl,rfl,c,nb.new,rfl,hc.mono (ai.jD H.none)⟩
theorem mb (ρ:ai) (i:Nat) (r:RI):ρ.add i r i=some r:=by simp [ai.add]
theorem AD (ρ:ai) (h:ad) (r:RI) (hs:r.sh=0):af (ρ.add h.length r) (mQ h) (.pointer (some ⟨r.aD,0,none⟩)):=by
 have:=af.ptr (ρ:=ρ.add h.length r) (i:=h.length) (o:=0) (mb _ _ _)
 rw [hs] at this
 exact this
theorem o0 (ρ:ai) (i:Nat) (r:RI) (hs:r.sh=0) {n c':Nat} (hn:n<=c') (hc:c'<=maxLen) (hb:c'*r.aL<=r.size):af (ρ.add i r) (sl r.elem i 0 n) (.slice (some ⟨r.aD,0,none⟩) n c'):=
 af.slice (mb _ _ _) (.inl (by omega)) hn hc (by omega)
theorem K8 (H:ar P ρ h w) {e:TypeId} {x x' v:Value} {h':ad} (hi:iO e h x=some (v,h')) (hx:af ρ x x'):
  ∃w' ae v',(Instr.box e x').run P w=.ok v' w'/\af ae v v'/\ar P ae h' w'/\Tr ρ h w ae h' w':=by
 unfold iO at hi
 split at hi
 ·rename_i gM
  simp at hi
  obtain ⟨rfl,rfl⟩:=hi
  have hc:bV ρ x'.cells 0 (aZ x):=bV.of (hx.cells gM) (hx.qf gM)
  obtain ⟨q1,q2⟩:=oK H (dn.alloc w (.cells x'.cells e)) hc
  exact ⟨_,_,_,by simp [Instr.box,newVar,newRow],AD _ _ _ rfl,q1,q2⟩
 ·cases hi
theorem K4 (H:ar P ρ h w) {e:TypeId} {zs:List Value} (hz:zeroOf P e=some zs):
  ∃w' ae v',(Instr.alloc e true (.tuple #[])).run P w=.ok v' w'/\af ae (mQ h) v'/\ar P ae (h++[.arr e zs]) w'/\Tr ρ h w ae (h++[.arr e zs]) w':=by
 obtain ⟨i,z,hi,gn,rfl,gM,bL,hlen⟩:=nf hz
 have hc:bV ρ z.cells 0 (aZ z):=bV.of (aC.closed λx hx=>(bL x hx).1) (λx hx=>(bL x hx).2)
 obtain ⟨q1,q2⟩:=oK H (dn.alloc w (.cells z.cells e)) hc
 exact ⟨_,_,_,by simp [Instr.alloc,lL w hi gn,newVar,newRow],AD _ _ _ rfl,q1,q2⟩
theorem tc {t:TypeId} {i:TypeInfo} (hi:P.info? t=some i):P.cellsOf t=i.size:=by simp [Program.cellsOf,hi]
theorem xN {t:TypeId} {i:TypeInfo} (hi:P.info? t=some i):P.bytesOf t=i.bytes:=by simp [Program.bytesOf,hi]
theorem Lr (H:ar P ρ h w) {t e:TypeId} {n:Nat} {zs:List Value} {ps:List (Nat×Nat×Value)} {qs:Array (Nat×Value)} {v:Value} {h':ad} (ht:P.underlying t=some (.slice e)) (hz:zeroOf P e=some zs)
  (hn:n*P.cellsOf e<=16777216) (bc:P.cellsOf e≠0) (hp:iZ ρ (λi=>some (i*P.cellsOf e,P.cellsOf e)) ps qs.toList) (hi:bI e n zs h ps=some (v,h')):
  ∃w' ae v',(Instr.buildSlice t n qs).run P w=.ok v' w'/\af ae v v'/\ar P ae h' w'/\Tr ρ h w ae h' w':=by
 obtain ⟨i,z,fq,gn,rfl,gM,bL,hlen⟩:=nf hz
 have hk:cB P e=true:=by simp [cB,fq]
 have eC:=tc fq
 simp only [bI,map_eq_some_iff,Prod.mk.injEq] at hi
 obtain ⟨cs,hf,rfl,rfl⟩:=hi
 obtain ⟨zero,ig,Iw⟩:∃zero:Array Value,(if n*P.cellsOf e=0 then (Pure.pure #[]:Sem (Array Value)) else do pure (<-zeroValue e).cells).run P w=.ok zero w/\
   ((Array.range (n*P.cellsOf e)).map (zero[·%zero.size]!)).toList=dQ (aZ z) n:=by
  by_cases h0:n*P.cellsOf e=0
  ·refine ⟨#[],by simp [h0],?_⟩
   have hn0:n=0:=by
    rcases Nat.mul_eq_zero.1 h0 with h | h
    ·exact h
    ·exact absurd h bc
   subst hn0
   simp [dQ,Array.range_zero']
  ·exact ⟨z.cells,by simp [h0,lL w fq gn],by rw [eC];exact Jo z n i.size hlen⟩
 have G1:aC ρ (dQ (aZ z) n) (dQ (aZ z) n):=aC.closed (CI λx hx=>(bL x hx).1)
 obtain ⟨cU,mB,hr,h1,hl2⟩:=tz (ys:=(Array.range (n*P.cellsOf e)).map (zero[·%zero.size]!)) hp hf (by rw [Iw];exact G1) (CI λx hx=>(bL x hx).2)
 obtain ⟨q1,q2⟩:=oK H (dn.alloc w (.cells cU e)) (bV.of hr h1)
 have ft:cU.size=n*P.cellsOf e:=by
  have:=hr.length
  rw [hl2,wP,hlen,<-eC] at this
  simpa using this.symm
 have Hy:n<=maxLen:=by
  have h1:1<=P.cellsOf e:=by omega
  have:=Nat.mul_le_mul_left n h1
  unfold maxLen
  omega
 refine ⟨_,_,.slice (some ⟨w.heap.size,0,none⟩) n n,?_,o0 ρ h.length ⟨w.heap.size,0,e,P.cellsOf e,cU.size⟩ rfl (le_refl _) Hy (by simp [ft]),q1,q2⟩
 unfold Instr.buildSlice
 simp only [Sem.run_bind,run_underlying ht,Result.andThen_ok,gw w hk]
 have GJ:¬(n*P.cellsOf e>2^24):=by rw [show (2^24:Nat)=16777216 from rfl];omega
 rw [if_neg GJ]
 by_cases h0:n*P.cellsOf e=0
 ·rw [if_pos h0] at ig⊢
  simp only [Sem.run_pure,Result.ok.injEq,and_true] at ig
  subst ig
  simp only [Sem.run_bind,Sem.run_pure,Result.andThen_ok,mB]
  simp [newRow]
 ·rw [if_neg h0] at ig⊢
  simp only [Sem.run_bind,Sem.run_pure] at ig⊢
  rw [lL w fq gn] at ig⊢
  simp only [Result.andThen_ok,Result.ok.injEq,and_true] at ig⊢
  subst ig
  rw [mB]
  simp [newRow]
end
end
section
section
variable {P : Program} {w : World} {ρ : ai} {h : ad}
theorem Ln (H:ar P ρ h w) {t e:TypeId} {zs:List Value} {l c l' c' v:Value} {h':ad} (ht:P.underlying t=some (.slice e)) (hz:zeroOf P e=some zs)
  (hi:oD e (P.bytesOf e) zs h l c=some (v,h')) (hl:af ρ l l') (hc:af ρ c c'):
  ∃w' ae v',(Instr.makeSlice t l' c').run P w=.ok v' w'/\af ae v v'/\ar P ae h' w'/\Tr ρ h w ae h' w':=by
 obtain ⟨i,z,fq,gn,rfl,gM,bL,hlen⟩:=nf hz
 unfold oD at hi
 split at hi
 ·rename_i k1 l k2 c
  rw [hl.dX,hc.dX]
  split at hi
  ·rename_i hb
   obtain ⟨h0,h1,h2,h3⟩:=hb
   simp at hi
   obtain ⟨rfl,rfl⟩:=hi
   rw [xN fq] at h2
   have cf:=run_make (P:=P) w t e i z ht fq gn k1 k2 l c h0 h1 h2 h3
   have kU:bV ρ (madeCells z.cells (c.toNat*i.size)) 0 (dQ (aZ z) l.toNat):=by
    intro j x hj
    have dL:j<l.toNat*i.size:=by
     have:=(bw hj).1
     rwa [wP,hlen] at this
    have uB:z.cells.size=i.size:=by rw [<-hlen];simp [aZ]
    have lj:0<z.cells.size:=by
     rcases Nat.eq_zero_or_pos i.size with q | q
     ·rw [q] at dL;simp at dL
     ·omega
    have zI:l.toNat*i.size<=c.toNat*i.size:=Nat.mul_le_mul_right _ (by omega)
    rw [dQ,zh _ _ _ (by rw [hlen];exact dL)] at hj
    have hx:x∈aZ z:=mem_of_getElem? hj
    refine ⟨(bL x hx).2,x,?_,ez.rel (bL x hx).1⟩
    rw [zero_add,Av _ _ _ (by omega) lj]
    simpa [aZ] using hj
   obtain ⟨q1,q2⟩:=oK H (dn.alloc w (.cells (madeCells z.cells (c.toNat*i.size)) e)) kU
   refine ⟨_,_,_,cf,?_,q1,q2⟩
   exact o0 ρ h.length ⟨w.heap.size,0,e,P.cellsOf e,(madeCells z.cells (c.toNat*i.size)).size⟩ rfl (by omega) (by unfold maxLen;omega) (by simp [size_madeCells,tc fq])
  ·cases hi
 ·cases hi
theorem Ch {t e:TypeId} {i:TypeInfo} (ht:P.underlying t=some (.slice e)) (hi:P.info? e=some i) (type:TypeId) (b:Option Addr) (n c:Nat) (x:Value) (hn:n<=c)
  (hx:x=.slice none 0 0∨∃a c2,x=.slice (some a) 0 c2):(Builtin.append_ #[t,t] type #[.slice b n c,x]).run P w=.ok (.slice b n c) w:=by
 rcases hx with rfl | ⟨a,c2,rfl⟩
 ·cases b <;> simp [Builtin.append_,run_underlying ht,sizeOf,typeInfo,hi,Builtin.lenOf,hn,Builtin.firstCells,storeCells]
 ·cases b <;> simp [Builtin.append_,run_underlying ht,sizeOf,typeInfo,hi,Builtin.lenOf,hn,Builtin.firstCells,loadCells,loadCellsFrom,storeCells]
theorem td {ρ:ai} {c:Array Value} {xs ys zs:List Value} (hx:∀(j:Nat) (x:Value),xs[j]?=some x->cL x=true/\∃y,c[j]?=some y/\af ρ x y) (hz:aC ρ zs ys) (h1:∀x∈zs,cL x=true)
  (hc:∀(j:Nat) (y:Value),ys[j]?=some y->c[xs.length+j]?=some y):bV ρ c 0 (xs++zs):=by
 intro j x hj
 by_cases hlt:j<xs.length
 ·rw [getElem?_append_left hlt] at hj
  simpa using hx j x hj
 ·rw [List.getElem?_append_right (by omega)] at hj
  obtain ⟨y,hy,hr⟩:=hz.get hj
  refine ⟨h1 x (mem_of_getElem? hj),y,?_,hr⟩
  have:=hc _ y hy
  rw [<-this]
  congr 1
  omega
theorem K5 (H:ar P ρ h w) {t e:TypeId} {zs:List Value} {type:TypeId} {s x s' x' v:Value} {h':ad} (ht:P.underlying t=some (.slice e)) (hz:zeroOf P e=some zs)
  (hi:cg e (P.cellsOf e) (P.bytesOf e) h s x=some (v,h')) (hs:af ρ s s') (hx:af ρ x x'):
  ∃w' ae v',(Builtin.append_ #[t,t] type #[s',x']).run P w=.ok v' w'/\af ae v v'/\ar P ae h' w'/\Tr ρ h w ae h' w':=by
 obtain ⟨i,z,fq,gn,rfl,gM,bL,hlen⟩:=nf hz
 have eC:=tc fq
 have zu:=xN fq
 have uB:z.cells.size=i.size:=by rw [<-hlen];simp [aZ]
 unfold cg at hi
 split at hi
 ·rename_i news m hn hm
  have zR:=rQ H hn hx
  have ig:m=0->(x'=.slice none 0 0∨∃a c2,x'=.slice (some a) 0 c2):=by
   intro ka
   rcases zR with ⟨e1,_⟩ | ⟨b,o,n2,c2,e1,e2,_⟩
   ·exact .inl e1
   ·rw [hm] at e2;cases e2;subst ka;exact .inr ⟨_,_,e1⟩
  have zO:0<m->∃b o c2,x'=.slice (some ⟨b,o,none⟩) m c2/\news.length=m*i.size/\(∀v∈news,cL v=true)/\
    ∃ys,aC ρ news ys/\ys.length=m*i.size/\∀j v,ys[j]?=some v->w.cell? ((⟨b,o,none⟩:Addr).add j)=some v:=by
   intro ka
   rcases zR with ⟨e1,e2⟩ | ⟨b,o,n2,c2,e1,e2,e3,e4,ys,e5,e6⟩
   ·subst e1
    cases hx
    ·simp [fL] at hm
     omega
    ·simp [fL] at hm
   ·rw [hm] at e2;cases e2
    refine ⟨b,o,c2,e1,by rw [e3,eC],e4,ys,e5,by rw [<-e5.length,e3,eC],?_⟩
    intro j v hj
    rw [Addr.add_lit]
    exact e6 j v hj
  split at hi
  ·cases hs
   split at hi
   ·rename_i ka
    simp at hi
    obtain ⟨rfl,rfl⟩:=hi
    exact ⟨w,ρ,_,Ch ht fq type none 0 0 x' (le_refl _) (ig ka),.gv,H,Tr.refl H⟩
   ·rename_i ka
    split at hi
    ·rename_i hb
     obtain ⟨Mz,hb2⟩:=hb
     simp at hi
     obtain ⟨rfl,rfl⟩:=hi
     obtain ⟨b,o,c2,rfl,f1,f2,ys,f3,f4,f5⟩:=zO (by omega)
     have cf:=run_append_nil (P:=P) w t type e i z ht fq gn ⟨b,o,none⟩ m c2 ys f4 f5 (by omega) (by unfold maxLen at hb2;omega) (by rw [<-zu];omega)
     have dc:=grownCap_ge w m 0 e
     have kU:bV ρ (ys.toArray++Builtin.zeroCells z.cells (grownCap w m 0 e-m)) 0 news:=by
      have:=td (ρ:=ρ) (c:=ys.toArray++Builtin.zeroCells z.cells (grownCap w m 0 e-m)) (xs:=[]) (ys:=ys) (zs:=news) (by simp) f3 f2 (by
       intro j y hj
       have hlt:=(bw hj).1
       rw [Array.getElem?_append_left (by simpa using hlt)]
       simpa using hj)
      simpa using this
     obtain ⟨q1,q2⟩:=oK H (dn.drew w (.cells (ys.toArray++Builtin.zeroCells z.cells (grownCap w m 0 e-m)) e)) kU
     refine ⟨_,_,_,cf,?_,q1,q2⟩
     refine o0 ρ h.length ⟨w.heap.size,0,e,P.cellsOf e,(ys.toArray++Builtin.zeroCells z.cells (grownCap w m 0 e-m)).size⟩ rfl dc (grownCap_le_maxLen w m 0 e hb2) ?_
     simp only [Array.size_append,List.size_toArray,size_zeroCells,f4,uB,eC]
     rw [<-add_mul]
     exact Nat.mul_le_mul_right _ (by omega)
    ·cases hi
  ·rename_i ii e' n cc
   split at hi
   ·rename_i y9 xs hxs
    split at hi
    ·rename_i hb
     obtain ⟨rfl,rfl,GR,GS,zt⟩:=hb
     have H7:=hs
     cases hs with
     | slice hr ho hnc G3 mw=>
      rename_i o' c' r
      obtain ⟨g1,g2,c,g3,g4,g5⟩:=H.arr hr hxs
      obtain rfl:o'=0:=by
       rcases ho with ho | ⟨_,q,_⟩
       ·omega
       ·omega
      have dU:=H.aL _ _ hr
      split at hi
      ·rename_i ka
       simp at hi
       obtain ⟨rfl,rfl⟩:=hi
       exact ⟨w,ρ,_,Ch ht fq type _ n c' x' hnc (ig ka),H7,H,Tr.refl H⟩
      ·rename_i ka
       simp at hi
       obtain ⟨rfl,rfl⟩:=hi
       obtain ⟨b,o,c2,rfl,f1,f2,ys,f3,f4,f5⟩:=zO (by omega)
       rw [eC] at GR
       have mA:r.aL=i.size:=by rw [dU,eC]
       have de:aI h ii:=.inl ⟨_,xs,hxs⟩
       by_cases uq:n+m<=c'
       ·have qH:n*i.size+ys.length<=c.size:=by
         rw [f4,g4,<-add_mul]
         have:=Nat.mul_le_mul_right i.size uq
         rw [mA] at mw
         omega
        have cf:=run_append_room (P:=P) w t type r.elem i ht fq r.aD n c' c g3 ⟨b,o,none⟩ m c2 ys f4 f5 (f3.oN f2) uq qH
        have j4:(c.toList.take (n*i.size)++ys++c.toList.drop (n*i.size+ys.length)).toArray=(setAt c.toList (n*i.size) ys).toArray:=rfl
        rw [j4] at cf
        have ft:(setAt c.toList (n*i.size) ys).toArray.size=c.size:=by simp [wi (show n*i.size+ys.length<=c.toList.length by simpa using qH)]
        have kU:bV ρ (setAt c.toList (n*i.size) ys).toArray 0 (xs++news):=by
         refine td (ys:=ys) ?_ f3 f2 ?_
         ·intro j x hj
          have hlt:=(bw hj).1
          obtain ⟨k1,y,k2,k3⟩:=g5 j x hj
          refine ⟨k1,y,?_,k3⟩
          rw [List.getElem?_toArray,rM (by simpa using qH),if_pos (by omega)]
          simpa using k2
         ·intro j y hj
          have hlt:=(bw hj).1
          rw [List.getElem?_toArray,rM (by simpa using qH),if_neg (by omega),if_pos (by omega)]
          rw [<-hj]
          congr 1
          omega
        have sb:=eR.row g3 (setAt c.toList (n*i.size) ys).toArray
        obtain ⟨q1,q2⟩:=H.move (o:=.arr r.elem (xs++news)) hr de sb ⟨rfl,g2,_,sb.here,by rw [ft,g4],kU.mono (ai.jD H.none)⟩
        refine ⟨_,_,_,cf,?_,q1,q2⟩
        exact o0 ρ h.length r g2 uq G3 (by omega)
       ·obtain ⟨vj,o1,o2,o3,o4⟩:=g5.wA (o:=0) (n:=n*i.size) (by omega)
        have It:(xs.drop 0).take (n*i.size)=xs:=by rw [List.drop_zero];exact List.take_of_length_le (by omega)
        rw [It] at o1 o3
        have qM:∀j v,vj[j]?=some v->w.cell? ((⟨r.aD,0,none⟩:Addr).add j)=some v:=by
         intro j v hj
         rw [Addr.add_lit,qd g3]
         simpa using o4 j v hj
        have zy:=growslice_fits (need:=n+m) (old:=c') (bytes:=P.bytesOf r.elem) (by omega) GS
        rw [zu] at zy
        have cf:=run_append_grow (P:=P) w t type r.elem i z ht fq gn ⟨r.aD,0,none⟩ n c' vj o2 qM ⟨b,o,none⟩ m c2 ys f4 f5 (by omega) (by unfold maxLen at zt;omega) zy
        have dc:=grownCap_ge w (n+m) c' r.elem
        generalize iJ:vj.toArray++ys.toArray++Builtin.zeroCells z.cells (grownCap w (n+m) c' r.elem-(n+m))=cc at cf
        have GZ:cc.size=n*i.size+m*i.size+(grownCap w (n+m) c' r.elem-(n+m))*i.size:=by
         rw [<-iJ];simp only [Array.size_append,List.size_toArray,size_zeroCells,o2,f4,uB]
        have kU:bV ρ cc 0 (xs++news):=by
         refine td (ys:=ys) ?_ f3 f2 ?_
         ·intro j x hj
          have hlt:=(bw hj).1
          obtain ⟨y,k2,k3⟩:=o1.get hj
          refine ⟨o3 x (mem_of_getElem? hj),y,?_,k3⟩
          rw [<-iJ,Array.append_assoc,Array.getElem?_append_left (by simp;omega)]
          simpa using k2
         ·intro j y hj
          have hlt:=(bw hj).1
          rw [<-iJ,Array.append_assoc,Array.getElem?_append_right (by simp;omega),Array.getElem?_append_left (by simp;omega)]
          rw [<-hj,List.getElem?_toArray]
          congr 1
          simp
          omega
        have nb:=dn.drew w (.cells cc r.elem)
        obtain ⟨q1,q2⟩:=H.new (h₀:=h.set ii .dead) (o:=.arr r.elem (xs++news)) (r:=⟨w.heap.size,0,r.elem,P.cellsOf r.elem,cc.size⟩) nb rfl rfl (by simp) (by
          intro j
          by_cases hj:j=ii
          ·subst hj;right;rw [List.getElem?_set_self (H.lt hr)]
          ·left;rw [getElem?_set_ne (Ne.symm hj)]) ⟨rfl,rfl,cc,nb.new,rfl,kU.mono (ai.jD H.none)⟩
        refine ⟨_,_,_,cf,?_,q1,q2⟩
        refine o0 ρ h.length ⟨w.heap.size,0,r.elem,P.cellsOf r.elem,cc.size⟩ rfl dc (grownCap_le_maxLen w (n+m) c' r.elem zt) ?_
        simp only [GZ,eC]
        rw [<-add_mul,<-add_mul]
        exact Nat.mul_le_mul_right _ (by omega)
    ·cases hi
   ·cases hi
  ·cases hi
 ·cases hi
theorem Lb (H:ar P ρ h w) {t e tt:TypeId} {type:TypeId} {d x d' x' v:Value} {h':ad} (ht:P.underlying t=some (.slice e)) (hz:(P.info? e).map (·.size)=some 1) (hi:uF h d x=some (v,h')) (hd:af ρ d d') (hx:af ρ x x'):
  ∃w',(Builtin.copy_ #[t,tt] type #[d',x']).run P w=.ok v w'/\af ρ v v/\ar P ρ h' w'/\Tr ρ h w ρ h' w':=by
 unfold uF at hi
 split at hi
 ·rename_i n m cs hn hm j4
  have tU:∃p c,d'=.slice p n c:=by
   unfold fL at hn
   split at hn
   ·cases hd;cases hn;exact ⟨_,_,rfl⟩
   ·cases hd;cases hn;exact ⟨_,_,rfl⟩
   ·cases hn
  have qQ:∃p c,x'=.slice p m c:=by
   unfold fL at hm
   split at hm
   ·cases hx;cases hm;exact ⟨_,_,rfl⟩
   ·cases hx;cases hm;exact ⟨_,_,rfl⟩
   ·cases hm
  split at hi
  ·rename_i h0
   simp at hi
   obtain ⟨rfl,rfl⟩:=hi
   obtain ⟨p,c,rfl⟩:=tU
   obtain ⟨q,c',rfl⟩:=qQ
   exact ⟨w,run_copy_none (P:=P) w t tt type e p q n c m c' ht hz h0,.int _ _,H,.refl H⟩
  ·rename_i h0
   split at hi
   ·rename_i i o e' n' c0
    split at hi
    ·rename_i e2 xs hg
     split at hi
     ·rename_i hle
      simp only [Option.some.injEq,Prod.mk.injEq] at hi
      obtain ⟨rfl,rfl⟩:=hi
      cases hd with
      | slice hr ho hn2 hc hb=>
       rename_i o' c' r
       simp [fL] at hn
       subst hn
       have lj:0<n':=by
        have:Nat.min m n'<=n':=Nat.min_le_right _ _
        omega
       have bg:o'=r.sh+o:=by
        rcases ho with ho | ⟨q1,q2,q3⟩
        ·exact ho
        ·omega
       subst bg
       obtain ⟨a1,a2,c,a3,a4,a5⟩:=H.arr hr hg
       rcases rQ H j4 hx with ⟨rfl,rfl⟩ | ⟨b,ob,nn,cc,rfl,hl,hlen,mz,ys,qR,Hr⟩
       ·obtain ⟨q,c',hq⟩:=qQ
        cases hq
        exact absurd (Nat.zero_min n') h0
       ·rw [hm] at hl
        cases hl
        rw [Nat.mul_one] at hlen
        have Iv:=qR.length
        have hlt:(ys.take (Nat.min m n')).length=Nat.min m n':=by
         rw [List.length_take,<-Iv,hlen];exact Nat.min_eq_left (Nat.min_le_left _ _)
        have MB:(cs.take (Nat.min m n')).length=Nat.min m n':=by
         rw [List.length_take,hlen];exact Nat.min_eq_left (Nat.min_le_left _ _)
        have zQ:aC ρ (cs.take (Nat.min m n')) (ys.take (Nat.min m n')):=qR.take _
        have zp:∀v∈cs.take (Nat.min m n'),cL v=true:=λv hv=>mz v (List.mem_of_mem_take hv)
        have cf:=run_copy_row (P:=P) w t tt type e r.aD (r.sh+o) n' c' ⟨b,ob,none⟩ m cc c e2 (ys.take (Nat.min m n')) ht hz a3 hlt
         (λj v hj=>by
          rw [List.getElem?_take] at hj
          split at hj
          ·rw [Addr.add_lit];exact Hr j v hj
          ·cases hj) (by have:=a5.le;rw [hlt,a2];omega) (zQ.oN zp)
        rw [hlt,a2,zero_add] at cf
        have heq:(c.toList.take o++ys.take (Nat.min m n')++c.toList.drop (o+Nat.min m n')).toArray=(setAt c.toList o (ys.take (Nat.min m n'))).toArray:=by simp only [setAt,hlt]
        rw [heq] at cf
        have de:aI h i:=.inl ⟨e2,xs,hg⟩
        obtain ⟨q1,q2⟩:=H.set (o:=.arr e2 (setAt xs o (cs.take (Nat.min m n')))) hr de (eR.row a3 (setAt c.toList o (ys.take (Nat.min m n'))).toArray)
         ⟨a1,a2,_,(eR.row a3 _).here,by simp [wi (show o+(ys.take (Nat.min m n')).length<=c.toList.length by have:=a5.le;simp only [Array.length_toList];omega),a4],a5.put zQ zp (by omega)⟩
        refine ⟨_,?_,.int _ _,q1,q2⟩
        rw [a2,zero_add];exact cf
     ·cases hi
    ·cases hi
   ·cases hi
 ·cases hi
end
end
section
theorem eR.obj {w:World} {g:Nat} {x:Obj} (hg:w.heap[g]?=some x) (b:Obj):eR w g b { w with heap:=w.heap.setIfInBounds g b } where
 here:=by
  have:=(Array.getElem?_eq_some_iff.1 hg).1
  simp [this]
 other:=by intro j hj;simp [Ne.symm hj]
 size:=by simp
 os:=rfl
 tape:=rfl
 output:=rfl
theorem Gt {ρ:ai} {es:List (ByteArray×Value)} {aj:List MapEntry} (h:fC ρ es aj) (k:ByteArray) {v v':Value} (hv:af ρ v v') (born:Nat):∀i:Nat,
  (Instr.findNow .string (.string k) aj i=some none/\fC ρ (iw k v es) (aj++[{ key:=.string k,val:=v',born }]))∨
  (∃u j,Instr.findNow .string (.string k) aj i=some (some (i+j,u))/\(∃en,aj[j]?=some en/\en.key=.string k)/\fC ρ (iw k v es) (aj.modify j λe=>{ e with key:=.string k,val:=v' })):=by
 induction h with
 | nil=>intro i;exact .inl ⟨rfl,.cons rfl hv .nil⟩
 | cons h1 h2 h3 ih=>
  rename_i k0 v0 en es aj
  intro i
  by_cases hk:k=k0
  ·subst hk
   have hb:(k==k)=true:=(MapKept.bytes_beq k k).2 rfl
   refine .inr ⟨en.val,0,?_,⟨en,rfl,h1⟩,?_⟩
   ·simp [Instr.findNow,h1,Instr.sameNow,hb]
   ·simp only [iw,if_true,List.modify_zero_cons]
    exact .cons rfl hv h3
  ·have hb:(k==k0)=false:=by
    rw [Bool.eq_false_iff]
    exact λe=>hk ((MapKept.bytes_beq k k0).1 e)
   rcases ih (i+1) with ⟨e1,e2⟩ | ⟨u,j,e1,e2,e3⟩
   ·refine .inl ⟨?_,?_⟩
    ·simp [Instr.findNow,h1,Instr.sameNow,hb,e1]
    ·simp only [iw,if_neg hk,List.cons_append]
     exact .cons h1 h2 e2
   ·refine .inr ⟨u,j+1,?_,by simpa using e2,?_⟩
    ·simp [Instr.findNow,h1,Instr.sameNow,hb,e1];omega
    ·simp only [iw,if_neg hk,List.modify_succ_cons]
     exact .cons h1 h2 e3
theorem Gu {kd:IntKind} {ρ:ai} {es:List (Int×Value)} {aj:List MapEntry} (h:fD kd ρ es aj) (k:Int) {v v':Value} (hv:af ρ v v') (born:Nat):∀i:Nat,
  (Instr.findNow (.int kd) (.int kd k) aj i=some none/\fD kd ρ (iv k v es) (aj++[{ key:=.int kd k,val:=v',born }]))∨
  (∃u j,Instr.findNow (.int kd) (.int kd k) aj i=some (some (i+j,u))/\(∃en,aj[j]?=some en/\en.key=.int kd k)/\fD kd ρ (iv k v es) (aj.modify j λe=>{ e with key:=.int kd k,val:=v' })):=by
 induction h with
 | nil=>intro i;exact .inl ⟨rfl,.cons rfl hv .nil⟩
 | cons h1 h2 h3 ih=>
  rename_i k0 v0 en es aj
  intro i
  by_cases hk:k=k0
  ·subst hk
   have hb:(k==k)=true:=beq_self_eq_true k
   refine .inr ⟨en.val,0,?_,⟨en,rfl,h1⟩,?_⟩
   ·simp [Instr.findNow,h1,Instr.sameNow]
   ·simp only [iv,if_true,List.modify_zero_cons]
    exact .cons rfl hv h3
  ·have hb:(k==k0)=false:=by
    exact beq_false_of_ne hk
   rcases ih (i+1) with ⟨e1,e2⟩ | ⟨u,j,e1,e2,e3⟩
   ·refine .inl ⟨?_,?_⟩
    ·simp [Instr.findNow,h1,Instr.sameNow,hb,e1]
    ·simp only [iv,if_neg hk,List.cons_append]
     exact .cons h1 h2 e2
   ·refine .inr ⟨u,j+1,?_,by simpa using e2,?_⟩
    ·simp [Instr.findNow,h1,Instr.sameNow,hb,e1];omega
    ·simp only [iv,if_neg hk,List.modify_succ_cons]
     exact .cons h1 h2 e3
section
variable {P : Program} {w : World} {ρ : ai} {h : ad}
theorem Lo (H:ar P ρ h w) (t:TypeId):∃w' ae v',(Instr.makeMap t none).run P w=.ok v' w'/\af ae (.map (some h.length)) v'/\ar P ae (h++[.smap []]) w'/\Tr ρ h w ae (h++[.smap []]) w':=by
 have nb:=dn.alloc w (.map #[] 0)
 obtain ⟨q1,q2⟩:=H.new (h₀:=h) (o:=.smap []) (r:=⟨w.heap.size,0,0,P.cellsOf 0,0⟩) nb rfl rfl rfl (λ_=>.inl rfl) ⟨#[],0,nb.new,rfl,λj k v hj=>by simp at hj⟩
 refine ⟨_,_,.map (some w.heap.size),?_,af.map (mb _ _ _),q1,q2⟩
 simp [Instr.makeMap]
theorem Lq (H:ar P ρ h w) (t:TypeId) (kd:IntKind):∃w' ae v',(Instr.makeMap t none).run P w=.ok v' w'/\af ae (.map (some h.length)) v'/\ar P ae (h++[.dW kd []]) w'/\Tr ρ h w ae (h++[.dW kd []]) w':=by
 have nb:=dn.alloc w (.map #[] 0)
 obtain ⟨q1,q2⟩:=H.new (h₀:=h) (o:=.dW kd []) (r:=⟨w.heap.size,0,0,P.cellsOf 0,0⟩) nb rfl rfl rfl (λ_=>.inl rfl) ⟨#[],0,nb.new,rfl,λj k v hj=>by simp at hj⟩
 refine ⟨_,_,.map (some w.heap.size),?_,af.map (mb _ _ _),q1,q2⟩
 simp [Instr.makeMap]
theorem kq {g:Nat} {aj:Array MapEntry} {clock:Nat} (hg:w.heap[g]?=some (.map aj clock)) (o:Obj):(setObj g o).run P w=.ok () { w with heap:=w.heap.setIfInBounds g o }:=by
 simp [setObj,Sem.run,hg]
theorem Cm (H:ar P ρ h w) {t kt et:TypeId} {m m' k k' v v':Value} {h':ad} (ht:P.underlying t=some (.map kt et)) (hk:isString P kt=true)
  (hi:uK h m k v=some h') (hm:af ρ m m') (gh:af ρ k k') (hv:af ρ v v'):∃w',(Instr.mapUpdate t m' k' v').run P w=.ok () w'/\ar P ρ h' w'/\Tr ρ h w ρ h' w':=by
 unfold uK at hi
 split at hi
 ·rename_i i key
  rw [gh.iT]
  cases hm with
  | map hr=>
   rename_i r
   split at hi
   ·rename_i es he
    simp at hi;subst hi
    obtain ⟨aj,clock,hb,kX⟩:=H.aj hr he
    have eD:=Ag hk
    have de:aI h i:=.inr (.inl ⟨es,he⟩)
    have mk:∀(gb:Array MapEntry) (gZ:Nat),fC ρ (iw key v es) gb.toList->ar P ρ (h.set i (.smap (iw key v es))) { w with heap:=w.heap.setIfInBounds r.aD (.map gb gZ) }/\
      Tr ρ h w ρ (h.set i (.smap (iw key v es))) { w with heap:=w.heap.setIfInBounds r.aD (.map gb gZ) }:=by
     intro gb gZ cW
     have sb:=eR.obj hb (.map gb gZ)
     have:=cW.to
     exact H.set (o:=.smap (iw key v es)) hr de sb ⟨gb,gZ,sb.here,by simpa using this.1,by simpa using this.2⟩
    rcases Gt kX key hv clock 0 with ⟨e1,e2⟩ | ⟨u,j,e1,⟨en,e2,kG⟩,e3⟩
    ·obtain ⟨q1,q2⟩:=mk (aj.push { key:=.string key,val:=v',born:=clock }) (clock+1) (by simpa using e2)
     refine ⟨_,?_,q1,q2⟩
     simp [Instr.mapUpdate,run_underlying ht,run_getObj_map hb,run_checkKey _ eD,run_findKey eD key _ e1,kq hb]
    ·obtain ⟨q1,q2⟩:=mk (aj.modify j λe=>{ e with key:=.string key,val:=v' }) clock (by simpa using e3)
     refine ⟨_,?_,q1,q2⟩
     have az:aj[j]?=some en:=by simpa using e2
     have uu:Instr.sameBits 10000 (.string key) (.string key)=true:=by
      simp [Instr.sameBits,(MapKept.bytes_beq key key).2 rfl]
     have ou:(Instr.keyThatStays (((aj[j]?).map (·.key)).getD (.string key)) (.string key)).run P w=.ok (.string key) w:=by
      rw [az]
      simp [Instr.keyThatStays,kG,uu]
     simp only [Instr.mapUpdate,Sem.run_bind,run_underlying ht,Result.andThen_ok,run_getObj_map hb,run_checkKey _ eD,run_findKey eD key _ e1]
     simp only [zero_add,ou,Result.andThen_ok,kq hb]
   ·cases hi
 ·cases hi
theorem Co (H:ar P ρ h w) {t kt et:TypeId} {kd:IntKind} {m m' k k' v v':Value} {h':ad} (ht:P.underlying t=some (.map kt et)) (hk:lB P kt=some kd)
  (hi:uM kd h m k v=some h') (hm:af ρ m m') (gh:af ρ k k') (hv:af ρ v v'):∃w',(Instr.mapUpdate t m' k' v').run P w=.ok () w'/\ar P ρ h' w'/\Tr ρ h w ρ h' w':=by
 unfold uM at hi
 split at hi
 ·rename_i i mN key
  rw [gh.dX]
  cases hm with
  | map hr=>
   rename_i r
   split at hi
   ·rename_i fb es he
    split at hi
    ·rename_i fH
     obtain ⟨rfl,rfl⟩:=fH
     simp at hi;subst hi
     obtain ⟨aj,clock,hb,kX⟩:=H.zc hr he
     have eD:=Ae hk
     have de:aI h i:=.inr (.inr (.inr (.inl ⟨_,es,he⟩)))
     have mk:∀(gb:Array MapEntry) (gZ:Nat),fD fb ρ (iv key v es) gb.toList->ar P ρ (h.set i (.dW fb (iv key v es))) { w with heap:=w.heap.setIfInBounds r.aD (.map gb gZ) }/\
       Tr ρ h w ρ (h.set i (.dW fb (iv key v es))) { w with heap:=w.heap.setIfInBounds r.aD (.map gb gZ) }:=by
      intro gb gZ cW
      have sb:=eR.obj hb (.map gb gZ)
      have:=cW.to
      exact H.set (o:=.dW fb (iv key v es)) hr de sb ⟨gb,gZ,sb.here,by simpa using this.1,by simpa using this.2⟩
     rcases Gu kX key hv clock 0 with ⟨e1,e2⟩ | ⟨u,j,e1,⟨en,e2,kG⟩,e3⟩
     ·obtain ⟨q1,q2⟩:=mk (aj.push { key:=.int fb key,val:=v',born:=clock }) (clock+1) (by simpa using e2)
      refine ⟨_,?_,q1,q2⟩
      simp [Instr.mapUpdate,run_underlying ht,run_getObj_map hb,rJ _ eD,rK eD key _ e1,kq hb]
     ·obtain ⟨q1,q2⟩:=mk (aj.modify j λe=>{ e with key:=.int fb key,val:=v' }) clock (by simpa using e3)
      refine ⟨_,?_,q1,q2⟩
      have az:aj[j]?=some en:=by simpa using e2
      have uu:∀kd,Instr.sameBits 10000 (.int kd key) (.int kd key)=true:=by
       intro kd
       simp [Instr.sameBits]
      have ou:(Instr.keyThatStays (((aj[j]?).map (·.key)).getD (.int fb key)) (.int fb key)).run P w=.ok (.int fb key) w:=by
       rw [az]
       simp [Instr.keyThatStays,kG,uu]
      simp only [Instr.mapUpdate,Sem.run_bind,run_underlying ht,Result.andThen_ok,run_getObj_map hb,rJ _ eD,rK eD key _ e1]
      simp only [zero_add,ou,Result.andThen_ok,kq hb]
    ·cases hi
   ·cases hi
 ·cases hi
theorem Lp (H:ar P ρ h w) (t:TypeId) (g:ca):∃w' ae v',(Instr.makeMap t none).run P w=.ok v' w'/\af ae (.map (some h.length)) v'/\ar P ae (h++[.cq g 0 []]) w'/\Tr ρ h w ae (h++[.cq g 0 []]) w':=by
 have nb:=dn.alloc w (.map #[] 0)
 obtain ⟨q1,q2⟩:=H.new (h₀:=h) (o:=.cq g 0 []) (r:=⟨w.heap.size,0,0,P.cellsOf 0,0⟩) nb rfl rfl rfl (λ_=>.inl rfl) ⟨by simp,#[],nb.new,rfl,λj b k v hj=>by simp at hj⟩
 refine ⟨_,_,.map (some w.heap.size),?_,af.map (mb _ _ _),q1,q2⟩
 simp [Instr.makeMap]
theorem gV.set {g:ca} {c:Nat} {es:List (Nat×Value×Value)} {aj:Array MapEntry} (E:gV ρ g es aj) {k v v':Value} (hk:bT g k=true) (hv:af ρ v v'):
  (gR k es=none->gV ρ g (es++[(c,k,v)]) (aj.push { key:=k,val:=v',born:=c }))/\∀j b u,gR k es=some j->es[j]?=some (b,k,u)->gV ρ g (es.modify j λe=>(e.1,k,v)) (aj.modify j λe=>{ e with key:=k,val:=v' }):=by
 constructor
 ·intro hp
  have aH:∀e∈es,e.2.1≠k:=by
   rcases rB hk es with ⟨_,h2⟩ | ⟨j,e,h1,_⟩
   ·exact h2
   ·rw [hp] at h1;cases h1
  refine ⟨by simp [E.size],?_,?_⟩
  ·rw [List.map_append,List.nodup_append]
   refine ⟨E.nodup,by simp,?_⟩
   intro a ha b hb
   obtain ⟨e,he,rfl⟩:=List.mem_map.1 ha
   simp at hb
   subst hb
   exact aH e he
  ·intro j b k1 v1 hj
   by_cases hlt:j<es.length
   ·rw [getElem?_append_left hlt] at hj
    obtain ⟨g1,en,g2,g3⟩:=E.get j b k1 v1 hj
    exact ⟨g1,en,by rw [Array.getElem?_push_lt (by rw [E.size];exact hlt)];rw [getElem?_eq_getElem (by rw [E.size];exact hlt)] at g2;exact g2,g3⟩
   ·rw [List.getElem?_append_right (by omega)] at hj
    have j9:j=es.length:=by
     have:=(bw hj).1
     simp at this
     omega
    subst j9
    simp at hj
    obtain ⟨rfl,rfl,rfl⟩:=hj
    exact ⟨hk,{ key:=k,val:=v',born:=c },by rw [<-E.size];simp,rfl,rfl,hv⟩
 ·intro j b u hp hj
  have Hn:((es.modify j λe=>(e.1,k,v)).map λe=>e.2.1)=es.map λe=>e.2.1:=by
   apply List.ext_getElem?
   intro i
   simp only [List.getElem?_map,List.getElem?_modify]
   by_cases gJ:j=i
   ·subst gJ;simp [hj]
   ·simp [gJ]
  refine ⟨by simp [E.size],by rw [Hn];exact E.nodup,?_⟩
  intro i b1 k1 v1 hi
  rw [List.getElem?_modify] at hi
  by_cases gJ:j=i
  ·subst gJ
   simp [hj] at hi
   obtain ⟨rfl,rfl,rfl⟩:=hi
   obtain ⟨g1,en,g2,g3,g4,_⟩:=E.get j b k u hj
   refine ⟨hk,{ en with key:=k,val:=v' },?_,rfl,g4,hv⟩
   rw [Array.getElem?_modify]
   simp [g2]
  ·simp [gJ] at hi
   obtain ⟨g1,en,g2,g3⟩:=E.get i b1 k1 v1 hi
   refine ⟨g1,en,?_,g3⟩
   rw [Array.getElem?_modify]
   simp [gJ,g2]
theorem Cn (H:ar P ρ h w) {t:TypeId} {g:ca} {m m' k k' v v':Value} {h':ad} (hg:gG P t=some g)
  (hi:uL g h m k v=some h') (hm:af ρ m m') (gh:af ρ k k') (hv:af ρ v v'):∃w',(Instr.mapUpdate t m' k' v').run P w=.ok () w'/\ar P ρ h' w'/\Tr ρ h w ρ h' w':=by
 obtain ⟨kt,et,ht,L⟩:=qA hg
 unfold uL at hi
 split at hi
 ·rename_i i
  cases hm with
  | map hr=>
   rename_i r
   split at hi
   ·rename_i g' c es he
    split at hi
    ·rename_i fH
     obtain ⟨rfl,hk,_⟩:=fH
     simp at hi;subst hi
     rw [gh.key hk]
     obtain ⟨aj,hb,E⟩:=H.nG hr he
     have de:aI h i:=.inr (.inr (.inr (.inr (.inl ⟨_,_,es,he⟩))))
     obtain ⟨S1,S2⟩:=E.set (c:=c) hk hv
     rcases v8 (w:=w) L E hk with ⟨⟨e1,_⟩,e2⟩ | ⟨j,b,u,en,e1,e2,e3,e4,e5,e6,e7⟩
     ·have E':=S1 e1
      have sb:=eR.obj hb (.map (aj.push { key:=k,val:=v',born:=c }) (c+1))
      have ln:lM c k v es=es++[(c,k,v)]:=by simp [lM,e1]
      have tR:kE c k es=c+1:=by simp [kE,e1]
      obtain ⟨q1,q2⟩:=H.set (o:=.cq g' (kE c k es) (lM c k v es)) hr de sb (by rw [ln,tR];exact ⟨E'.nodup,_,sb.here,E'.size,E'.get⟩)
      refine ⟨_,?_,q1,q2⟩
      simp [Instr.mapUpdate,run_underlying ht,run_getObj_map hb,L.check w _ k hk,e2,kq hb]
     ·have E':=S2 j b u e1 e2
      have sb:=eR.obj hb (.map (aj.modify j λe=>{ e with key:=k,val:=v' }) c)
      have ln:lM c k v es=es.modify j λe=>(e.1,k,v):=by simp [lM,e1]
      have tR:kE c k es=c:=by simp [kE,e1]
      obtain ⟨q1,q2⟩:=H.set (o:=.cq g' (kE c k es) (lM c k v es)) hr de sb (by rw [ln,tR];exact ⟨E'.nodup,_,sb.here,E'.size,E'.get⟩)
      refine ⟨_,?_,q1,q2⟩
      have ou:(Instr.keyThatStays (((aj[j]?).map (·.key)).getD k) k).run P w=.ok k w:=by
       rw [e3]
       simp [e4,L.stays w k hk]
      simp only [Instr.mapUpdate,Sem.run_bind,run_underlying ht,Result.andThen_ok,run_getObj_map hb,L.check w _ k hk,e7]
      simp only [ou,Result.andThen_ok,kq hb]
    ·cases hi
   ·cases hi
 ·cases hi
theorem gV.era {g:ca} {es:List (Nat×Value×Value)} {aj:Array MapEntry} (E:gV ρ g es aj) {j:Nat} (hj:j<es.length):gV ρ g (es.eraseIdx j) (aj.eraseIdxIfInBounds j):=by
 have hlt:j<aj.size:=by rw [E.size];exact hj
 have he:aj.eraseIdxIfInBounds j=aj.eraseIdx j hlt:=by simp [Array.eraseIdxIfInBounds,hlt]
 rw [he]
 refine ⟨by rw [Array.size_eraseIdx,List.length_eraseIdx,if_pos hj,E.size],?_,?_⟩
 ·refine List.Nodup.sublist ?_ E.nodup
  exact (List.eraseIdx_sublist _ _).map _
 ·intro i b k v hi
  rw [List.getElem?_eraseIdx] at hi
  split at hi
  ·rename_i gJ
   obtain ⟨g1,en,g2,g3⟩:=E.get i b k v hi
   exact ⟨g1,en,by rw [Array.getElem?_eraseIdx,if_pos gJ];exact g2,g3⟩
  ·rename_i gJ
   obtain ⟨g1,en,g2,g3⟩:=E.get (i+1) b k v hi
   exact ⟨g1,en,by rw [Array.getElem?_eraseIdx,if_neg gJ];exact g2,g3⟩
theorem Lc (H:ar P ρ h w) {t ty:TypeId} {ts:Array TypeId} {g:ca} {m m' k k':Value} {h':ad} (ow:ts[0]?=some t) (hg:gG P t=some g)
  (hi:uG g h m k=some h') (hm:af ρ m m') (gh:af ρ k k'):∃w',(Builtin.delete_ ts ty #[m',k']).run P w=.ok (.tuple #[]) w'/\ar P ρ h' w'/\Tr ρ h w ρ h' w':=by
 obtain ⟨kt,et,ht,L⟩:=qA hg
 unfold uG at hi
 split at hi
 ·rename_i i
  cases hm with
  | map hr=>
   rename_i r
   split at hi
   ·rename_i g' c es he
    split at hi
    ·rename_i fH
     obtain ⟨rfl,hk⟩:=fH
     simp at hi;subst hi
     rw [gh.key hk]
     obtain ⟨aj,hb,E⟩:=H.nG hr he
     have de:aI h i:=.inr (.inr (.inr (.inr (.inl ⟨_,_,es,he⟩))))
     rcases v8 (w:=w) L E hk with ⟨⟨e1,_⟩,e2⟩ | ⟨j,b,u,en,e1,e2,e3,e4,e5,e6,e7⟩
     ·have sb:=eR.obj hb (.map aj c)
      have ln:kI k es=es:=by simp [kI,e1]
      obtain ⟨q1,q2⟩:=H.set (o:=.cq g' c (kI k es)) hr de sb (by rw [ln];exact ⟨E.nodup,_,sb.here,E.size,E.get⟩)
      refine ⟨_,?_,q1,q2⟩
      simp [Builtin.delete_,ow,run_underlying ht,run_getObj_map hb,L.check w _ k hk,e2,kq hb]
     ·have E':=E.era (bw e2).1
      have sb:=eR.obj hb (.map (aj.eraseIdxIfInBounds j) c)
      have ln:kI k es=es.eraseIdx j:=by simp [kI,e1]
      obtain ⟨q1,q2⟩:=H.set (o:=.cq g' c (kI k es)) hr de sb (by rw [ln];exact ⟨E'.nodup,_,sb.here,E'.size,E'.get⟩)
      refine ⟨_,?_,q1,q2⟩
      simp [Builtin.delete_,ow,run_underlying ht,run_getObj_map hb,L.check w _ k hk,e7,kq hb]
    ·cases hi
   ·cases hi
 ·cases hi
theorem Lt (H:ar P ρ h w) {t:TypeId} {g:ca} {x x' v:Value} {h':ad} (hg:gG P t=some g) (hi:uN h x=some (v,h')) (hx:af ρ x x'):
  ∃w' ae v',(Instr.range t x').run P w=.ok v' w'/\af ae v v'/\ar P ae h' w'/\Tr ρ h w ae h' w':=by
 obtain ⟨kt,et,ht,L⟩:=qA hg
 unfold uN at hi
 split at hi
 ·rename_i i
  cases hx with
  | map hr=>
   rename_i r
   split at hi
   ·rename_i g' c es he
    simp at hi
    obtain ⟨rfl,rfl⟩:=hi
    obtain ⟨aj,hb,E⟩:=H.nG hr he
    have nb:=dn.alloc w (.mapIter (some r.aD) c #[] c)
    have bc:i≠h.length:=by
     have:=(bw he).1
     omega
    obtain ⟨q1,q2⟩:=H.new (h₀:=h) (o:=.iter i c [] c) (r:=⟨w.heap.size,0,0,P.cellsOf 0,0⟩) nb rfl rfl rfl (λ_=>.inl rfl)
     ⟨rfl,r,by simp [ai.add,bc,hr],nb.new⟩
    refine ⟨_,_,.pointer (some ⟨w.heap.size,0,none⟩),?_,?_,q1,q2⟩
    ·simp [Instr.range,run_underlying ht,run_getObj_map hb,newObj,Sem.run,Result.andThen]
    ·exact af.ptr (o:=0) (mb _ _ _)
   ·cases hi
 ·cases hi
theorem dy.val {v v':Value} {h':ad} {s:Result Next} {w':World} {ae:ai} (e:s=.ok (.value v') w') (a:af ae v v') (b:ar P ae h' w') (c:Tr ρ h w ae h' w'):dy P ρ h w v h' s:=
 ⟨_,_,_,_,e,.inl rfl,a,b,c⟩
theorem dy.skip {h':ad} {s:Result Next} {w':World} (e:s=.ok .skip w') (b:ar P ρ h' w') (c:Tr ρ h w ρ h' w'):dy P ρ h w undef h' s:=
 ⟨_,_,_,_,e,.inr ⟨rfl,rfl⟩,af.undef _,b,c⟩
theorem Gd {o:Oper} {eo:fS} {g g':Operand->Value} (hc:cO P o.op=some eo) (ak:o.op.operands.all di=true) (H:ar P ρ h w)
  (hg:∀x,di x=true->af ρ (g x) (g' x)) {v:Value} {h':ad} (hi:bU eo g h=some (v,h')):dy P ρ h w v h' ((execOp g' o).run P w):=by
 cases ho:o.op with
 | store t a x=>
  rw [ho] at hc ak
  simp [Op.operands] at ak
  simp only [cO] at hc
  split at hc
  ·rename_i hk
   simp at hc;subst hc
   simp only [bU,map_eq_some_iff,Prod.mk.injEq] at hi
   obtain ⟨aP,hi,rfl,rfl⟩:=hi
   obtain ⟨w',q1,q2,q3⟩:=Lw H hk hi (hg a ak.1) (hg x ak.2)
   exact dy.skip (w':=w') (by simp [execOp,ho,q1]) q2 q3
  ·cases hc
 | box e x=>
  rw [ho] at hc ak
  simp [Op.operands] at ak
  simp [cO] at hc;subst hc
  obtain ⟨w',ae,v',q1,q2,q3,q4⟩:=K8 H hi (hg x ak)
  exact dy.val (v':=v') (w':=w') (by simp [execOp,ho,q1]) q2 q3 q4
 | alloc e=>
  rw [ho] at hc
  simp only [cO,map_eq_some_iff] at hc
  obtain ⟨zs,hz,rfl⟩:=hc
  simp [bU] at hi
  obtain ⟨rfl,rfl⟩:=hi
  obtain ⟨w',ae,v',q1,q2,q3,q4⟩:=K4 H hz
  exact dy.val (v':=v') (w':=w') (by simp [execOp,ho,q1]) q2 q3 q4
 | buildSlice t n ps=>
  rw [ho] at hc ak
  simp only [cO] at hc
  simp only [Op.operands] at ak
  split at hc
  ·rename_i e ht
   split at hc
   ·rename_i zs hz
    split at hc
    ·rename_i hb
     simp at hc;subst hc
     have hq:∀q∈ps.toList,di q.2=true:=by
      intro q hm
      rw [Array.all_eq_true'] at ak
      exact ak q.2 (by simp;exact ⟨q.1,by simpa using hm⟩)
     have hp:=vQ hg (λi=>(i*P.cellsOf e,P.cellsOf e)) ps.toList hq
     obtain ⟨w',ae,v',q1,q2,q3,q4⟩:=Lr H ht hz hb.1 hb.2 (qs:=ps.map λ(i,x)=>(i,g' x)) (by simpa using hp) hi
     exact dy.val (v':=v') (w':=w') (by simp [execOp,ho,q1]) q2 q3 q4
    ·cases hc
   ·cases hc
  ·cases hc
 | makeSlice t l c=>
  rw [ho] at hc ak
  simp [Op.operands] at ak
  simp only [cO] at hc
  split at hc
  ·rename_i e ht
   split at hc
   ·rename_i zs hz
    simp at hc;subst hc
    obtain ⟨w',ae,v',q1,q2,q3,q4⟩:=Ln H ht hz hi (hg l ak.1) (hg c ak.2)
    exact dy.val (v':=v') (w':=w') (by simp [execOp,ho,q1]) q2 q3 q4
   ·cases hc
  ·cases hc
 | range t x=>
  rw [ho] at hc ak
  simp [Op.operands] at ak
  simp only [cO,map_eq_some_iff] at hc
  obtain ⟨g,dJ,rfl⟩:=hc
  obtain ⟨w',ae,v',q1,q2,q3,q4⟩:=Lt H dJ hi (hg x ak)
  exact dy.val (v':=v') (w':=w') (by simp [execOp,ho,q1]) q2 q3 q4
 | next it b=>
  rw [ho] at hc
  cases b with
  | false=>simp [cO] at hc;subst hc;simp [bU] at hi
  | true=>simp [cO] at hc
 | makeMap t r=>
  rw [ho] at hc
  cases r with
  | none=>
   cases dJ:gG P t with
   | some g=>
    simp only [cO,dJ,Option.some.injEq] at hc
    subst hc
    simp [bU] at hi
    obtain ⟨rfl,rfl⟩:=hi
    obtain ⟨w',ae,v',q1,q2,q3,q4⟩:=Lp H t g
    exact dy.val (v':=v') (w':=w') (by simp [execOp,ho,q1]) q2 q3 q4
   | none=>
   have two:eo=.mkMap∨∃kd,eo=.re kd:=by
    simp only [cO,dJ] at hc
    split at hc
    ·split at hc
     ·simp at hc;exact .inr ⟨_,hc.symm⟩
     ·simp at hc;exact .inl hc.symm
    ·simp at hc;exact .inl hc.symm
   rcases two with rfl | ⟨kd,rfl⟩
   ·simp [bU] at hi
    obtain ⟨rfl,rfl⟩:=hi
    obtain ⟨w',ae,v',q1,q2,q3,q4⟩:=Lo H t
    exact dy.val (v':=v') (w':=w') (by simp [execOp,ho,q1]) q2 q3 q4
   ·simp [bU] at hi
    obtain ⟨rfl,rfl⟩:=hi
    obtain ⟨w',ae,v',q1,q2,q3,q4⟩:=Lq H t kd
    exact dy.val (v':=v') (w':=w') (by simp [execOp,ho,q1]) q2 q3 q4
  | some r=>simp [cO] at hc
 | mapUpdate t m k x=>
  rw [ho] at hc ak
  simp [Op.operands] at ak
  simp only [cO] at hc
  split at hc
  ·rename_i g dJ
   simp at hc;subst hc
   simp only [bU,map_eq_some_iff,Prod.mk.injEq] at hi
   obtain ⟨aP,hi,rfl,rfl⟩:=hi
   obtain ⟨w',q1,q2,q3⟩:=Cn H dJ hi (hg m ak.1) (hg k ak.2.1) (hg x ak.2.2)
   exact dy.skip (w':=w') (by simp [execOp,ho,q1]) q2 q3
  split at hc
  ·rename_i kt et ht
   split at hc
   ·rename_i hk
    simp at hc;subst hc
    simp only [bU,map_eq_some_iff,Prod.mk.injEq] at hi
    obtain ⟨aP,hi,rfl,rfl⟩:=hi
    obtain ⟨w',q1,q2,q3⟩:=Cm H ht hk hi (hg m ak.1) (hg k ak.2.1) (hg x ak.2.2)
    exact dy.skip (w':=w') (by simp [execOp,ho,q1]) q2 q3
   ·simp only [map_eq_some_iff] at hc
    obtain ⟨kd,fH,rfl⟩:=hc
    simp only [bU,map_eq_some_iff,Prod.mk.injEq] at hi
    obtain ⟨aP,hi,rfl,rfl⟩:=hi
    obtain ⟨w',q1,q2,q3⟩:=Co H ht fH hi (hg m ak.1) (hg k ak.2.1) (hg x ak.2.2)
    exact dy.skip (w':=w') (by simp [execOp,ho,q1]) q2 q3
  ·cases hc
 | insert t m k x=>
  rw [ho] at hc ak
  simp [Op.operands] at ak
  simp only [cO] at hc
  split at hc
  ·rename_i g dJ
   simp at hc;subst hc
   simp only [bU,map_eq_some_iff,Prod.mk.injEq] at hi
   obtain ⟨aP,hi,rfl,rfl⟩:=hi
   obtain ⟨w',q1,q2,q3⟩:=Cn H dJ hi (hg m ak.1) (hg k ak.2.1) (hg x ak.2.2)
   exact dy.skip (w':=w') (by simp [execOp,ho,q1]) q2 q3
  split at hc
  ·rename_i kt et ht
   split at hc
   ·rename_i hk
    simp at hc;subst hc
    simp only [bU,map_eq_some_iff,Prod.mk.injEq] at hi
    obtain ⟨aP,hi,rfl,rfl⟩:=hi
    obtain ⟨w',q1,q2,q3⟩:=Cm H ht hk hi (hg m ak.1) (hg k ak.2.1) (hg x ak.2.2)
    exact dy.skip (w':=w') (by simp [execOp,ho,q1]) q2 q3
   ·simp only [map_eq_some_iff] at hc
    obtain ⟨kd,fH,rfl⟩:=hc
    simp only [bU,map_eq_some_iff,Prod.mk.injEq] at hi
    obtain ⟨aP,hi,rfl,rfl⟩:=hi
    obtain ⟨w',q1,q2,q3⟩:=Co H ht fH hi (hg m ak.1) (hg k ak.2.1) (hg x ak.2.2)
    exact dy.skip (w':=w') (by simp [execOp,ho,q1]) q2 q3
  ·cases hc
 | call c=>
  rw [ho] at hc ak
  obtain ⟨callee,args,argTypes⟩:=c
  cases callee with
  | builtin b=>
   cases b with
   | append=>
    simp only [cO] at hc
    split at hc
    ·rename_i s x t t' hx lq
     obtain rfl:args=#[s,x]:=ext' hx
     obtain rfl:argTypes=#[t,t']:=ext' lq
     simp [Op.operands,Call.operands] at ak
     split at hc
     ·rename_i Ij
      subst Ij
      split at hc
      ·rename_i e ht
       split at hc
       ·rename_i zs hz
        simp at hc;subst hc
        obtain ⟨w',ae,v',q1,q2,q3,q4⟩:=K5 (type:=o.type) H ht hz hi (hg s ak.1) (hg x ak.2)
        exact dy.val (v':=v') (w':=w') (by simp [execOp,ho,resolve,invoke,builtin,q1]) q2 q3 q4
       ·cases hc
      ·cases hc
     ·cases hc
    ·cases hc
   | copy=>
    simp only [cO] at hc
    split at hc
    ·rename_i d x t t' hx lq
     obtain rfl:args=#[d,x]:=ext' hx
     obtain rfl:argTypes=#[t,t']:=ext' lq
     simp [Op.operands,Call.operands] at ak
     split at hc
     ·rename_i e ht
      split at hc
      ·rename_i hz
       simp at hc;subst hc
       obtain ⟨w',q1,q2,q3,q4⟩:=Lb (tt:=t') (type:=o.type) H ht hz hi (hg d ak.1) (hg x ak.2)
       exact dy.val (v':=v) (w':=w') (by simp [execOp,ho,resolve,invoke,builtin,q1]) q2 q3 q4
      ·cases hc
     ·cases hc
    ·cases hc
   | delete=>
    simp only [cO] at hc
    split at hc
    ·rename_i m k t hx lq
     obtain rfl:args=#[m,k]:=ext' hx
     simp [Op.operands,Call.operands] at ak
     simp only [map_eq_some_iff] at hc
     obtain ⟨g,dJ,rfl⟩:=hc
     simp only [bU,map_eq_some_iff,Prod.mk.injEq] at hi
     obtain ⟨aP,hi,rfl,rfl⟩:=hi
     obtain ⟨w',q1,q2,q3⟩:=Lc (ty:=o.type) H lq dJ hi (hg m ak.1) (hg k ak.2)
     exact dy.val (v':=.tuple #[]) (w':=w') (by simp [execOp,ho,resolve,invoke,builtin,q1]) (af.undef _) q2 q3
    ·cases hc
   | _=>simp [cO] at hc
  | _=>simp [cO] at hc
 | panic x=>rw [ho] at hc;simp [cO] at hc;subst hc;simp [bU] at hi
 | makeInterface t x=>rw [ho] at hc;simp [cO] at hc;subst hc;simp [bU] at hi
 | _=>rw [ho] at hc;simp [cO] at hc
end
end
section
inductive cN where
 | p (o:ga)
 | l (o:fU)
 | e (o:fS)
 | call (f:FuncId) (args:List Operand)
 | ed (x:Operand) (args:List Operand)
structure cH where
 dst:Option Nat
 op:cN
 guard:Option (Nat×Bool)
structure ey where
 dst:Option Nat
 op:cN
structure aK where
 op:cH
 pre:Nat
structure dA where
 dst:Option Nat
 op:cN
 pre:Nat
inductive bW where
 | skip
 | tl (l:List (Option (Nat×Bool)×List dA))
 | ops (g:Option (Nat×Bool)) (l:List ey)
 | seq (a b:bW)
 | cut (ls:List Nat) (c:bW)
 | cond (c:Operand) (a b:bW)
 | block (id:Nat) (c:bW)
 | loop (ks ls:List Nat) (c:bW)
 | exit (id:Nat)
 | ret
 | range (g:Operand) (ls:List Nat) (c:nm)
abbrev FR (R:Option Nat):Fence:={ Fence.wide with round:=R }
def l7 (P:Program) (F:FuncId) (args:List Value) (h:ad) (v:Value) (h':ad):Prop:=
 ∀(ρ:ai) (args':Array Value) (w:World),aC ρ args args'.toList->ar P ρ h w->
  Calls P F args' w λe w'=>∃v' ae,e=.returned v'/\af ae v v'/\ar P ae h' w'/\Tr ρ h w ae h' w'
def gO (P:Program) (F:FuncId) (args:List Value) (h:ad) (K:Value->ad->Prop):Prop:=∃v h',l7 P F args h v h'/\K v h'
theorem gO.mono {P:Program} {F:FuncId} {args:List Value} {h:ad} {K K':Value->ad->Prop} (hc:gO P F args h K) (hk:∀v h',K v h'->K' v h'):gO P F args h K':=
 let ⟨v,h',a,b⟩:=hc;⟨v,h',a,hk v h' b⟩
def sd (P:Program) (i:Nat) (args:List Value) (h:ad) (v:Value) (h':ad):Prop:=
 ∀(ρ:ai) (r:RI) (args':Array Value) (w:World),ρ i=some r->aC ρ args args'.toList->ar P ρ h w->
  ∃fn tmps dF body,(Instr.yield r.aD args').run P w=.ok (.round r.aD fn tmps dF body) w/\
   RoundIn Fence.wide 0 P r.aD fn tmps dF body w λe w'=>∃v' ae,e=.returned v'/\af ae v v'/\ar P ae h' w'/\Tr ρ h w ae h' w'
def oF (P:Program) (i:Nat) (args:List Value) (h:ad) (K:Value->ad->Prop):Prop:=∃v h',sd P i args h v h'/\K v h'
theorem oF.mono {P:Program} {i:Nat} {args:List Value} {h:ad} {K K':Value->ad->Prop} (hc:oF P i args h K) (hk:∀v h',K v h'->K' v h'):oF P i args h K':=
 let ⟨v,h',a,b⟩:=hc;⟨v,h',a,hk v h' b⟩
def gY (P:Program) (f:FuncId):Bool:=
 match P.funcs[f]? with
 | some fn=>fn.name != "runtime.NumGoroutine" &&fn.body.isSome
 | none=>false
def bK (o:Option Value) (K:Value->Prop):Prop:=
 match o with
 | some v=>K v
 | none=>False
def fe (o:Option (Value×ad)) (K:Value->ad->Prop):Prop:=
 match o with
 | some (v,h')=>K v h'
 | none=>False
def iF (P:Program) (x:Value) (args:List Value) (h:ad) (K:Value->ad->Prop):Prop:=
 match x with
 | .func (.func g) first cap=>gY P g=true/\gO P g (first.toList++args++cap.toList) h K
 | .func (.yield i) first cap=>(first=#[]/\cap=#[])/\oF P i args h K
 | _=>False
def ko (P:Program) (g:Value) (ls:List Nat) (vs:List Value) (c:nm) (h:ad) (K:ad->Prop):Prop:=
 match g with
 | .func (.func F) first cap=>gY P F=true/\gO P F (first.toList++[.func (.yield h.length) #[] #[]]++cap.toList) (h++[.loop c ls vs]) λ_ h'=>
   (∃c' At dm,h'[h.length]?=some (.loop c' At dm))/\K (h'.set h.length .dead)
 | _=>False
def aR (P:Program) (o:cN) (f:Nat->Value) (h:ad) (K:Value->ad->Prop):Prop:=
 match o with
 | .p o=>bK (cP o (ev f)) λv=>K v h
 | .l o=>bK (bM o (ev f) h) λv=>K v h
 | .e o=>fe (bU o (ev f) h) K
 | .call g args=>gO P g (args.map (ev f)) h K
 | .ed x args=>iF P (ev f x) (args.map (ev f)) h K
def gu (v:Value) (b:Bool):Bool:=
 match v with
 | .bool c=>c==b
 | _=>false
def jB:Value->Bool
 | .complex _ _ _=>true
 | _=>false
def cE (g:Option (Nat×Bool)) (f:Nat->Value):Bool:=
 match g with
 | none=>true
 | some (s,b)=>gu (f s) b
def dI (v:Value) (b:Bool) (A B:Prop):Prop:=
 match v with
 | .bool c=>if (c==b)=true then A else B
 | .complex _ _ _=>False
 | _=>B
def aX (f:Nat->Value) (d:Option Nat) (v:Value):Nat->Value:=
 match d with
 | some d=>ku f d v
 | none=>f
def ij (P:Program):List cH->((Nat->Value)->ad->Prop)->(Nat->Value)->ad->Prop
 | [],K,f,h=>K f h
 | o::os,K,f,h=>
  match o.guard with
  | none=>aR P o.op f h λv h'=>ij P os K (aX f o.dst v) h'
  | some (s,b)=>dI (f s) b (aR P o.op f h λv h'=>ij P os K (aX f o.dst v) h') (ij P os K (aX f o.dst undef) h)
def j1 (P:Program):List ey->((Nat->Value)->ad->Prop)->(Nat->Value)->ad->Prop
 | [],K,f,h=>K f h
 | o::os,K,f,h=>aR P o.op f h λv h'=>j1 P os K (aX f o.dst v) h'
def pb:List ey->(Nat->Value)->(Nat->Value)
 | [],f=>f
 | o::os,f=>pb os (aX f o.dst undef)
def jF (P:Program) (g:Option (Nat×Bool)) (l:List ey) (K:(Nat->Value)->ad->Prop) (f:Nat->Value) (h:ad):Prop:=
 match g with
 | none=>j1 P l K f h
 | some (s,b)=>dI (f s) b (j1 P l K f h) (K (pb l f) h)
def cN.aV:cN->Bool
 | .p _=>false
 | .l _=>false
 | _=>true
abbrev bn:=List (Nat×fU×(Nat->Value)×Value)
def jS (pre:Nat) (lo:fU) (f:Nat->Value) (v:Value):List (Nat×ad)->Prop
 | []=>True
 | (e,H)::r=>if pre.testBit e=true then jS pre lo f v r else bM lo (ev f) H=some v/\jS pre lo f v r
def ee (pre:Nat) (H:ad):bn->Prop
 | []=>True
 | (j,lo,f,v)::r=>if pre.testBit j=true then ee pre H r else bM lo (ev f) H=some v/\ee pre H r
def dS (P:Program) (io:cN) (pre j:Nat) (ah:List (Nat×ad)) (ag:bn) (f:Nat->Value) (h:ad) (next:List (Nat×ad)->bn->Value->ad->Prop):Prop:=
 match io with
 | .p po=>bK (cP po (ev f)) λv=>next ah ag v h
 | .l lo=>bK (bM lo (ev f) h) λv=>jS pre lo f v ah/\next ah (ag++[(j,lo,f,v)]) v h
 | .e (.fl a)=>fe (bU (.fl a) (ev f) h) λv h'=>bK (fu h' v) λu=>ee pre h' ag/\next (ah++[(j,h)]) (ag++[(j,.obj (.const v),f,u)]) v h'
 | .e eo=>fe (bU eo (ev f) h) λv h'=>ee pre h' ag/\next (ah++[(j,h)]) ag v h'
 | .call g args=>gO P g (args.map (ev f)) h λv h'=>ee pre h' ag/\next (ah++[(j,h)]) ag v h'
 | .ed x args=>iF P (ev f x) (args.map (ev f)) h λv h'=>ee pre h' ag/\next (ah++[(j,h)]) ag v h'
def jV (io:cN) (pre j:Nat) (ah:List (Nat×ad)) (ag:bn) (h:ad) (next:List (Nat×ad)->bn->Value->ad->Prop):Prop:=
 match io.aV with
 | false=>next ah ag undef h
 | true=>ee pre h ag/\next (ah++[(j,h)]) ag undef h
def dV (P:Program):List aK->Nat->List (Nat×ad)->bn->((Nat->Value)->ad->Prop)->(Nat->Value)->ad->Prop
 | [],_,_,_,K,f,h=>K f h
 | o::os,j,ah,ag,K,f,h=>
  match o.op.guard with
  | none=>dS P o.op.op o.pre j ah ag f h λah ag v h'=>dV P os (j+1) ah ag K (aX f o.op.dst v) h'
  | some (s,b)=>
   dI (f s) b (dS P o.op.op o.pre j ah ag f h λah ag v h'=>dV P os (j+1) ah ag K (aX f o.op.dst v) h')
    (jV o.op.op o.pre j ah ag h λah ag v h'=>dV P os (j+1) ah ag K (aX f o.op.dst v) h')
def fF (P:Program):List dA->Nat->List (Nat×ad)->bn->(List (Nat×ad)->bn->(Nat->Value)->ad->Prop)->(Nat->Value)->ad->Prop
 | [],_,ah,ag,K,f,h=>K ah ag f h
 | o::os,j,ah,ag,K,f,h=>dS P o.op o.pre j ah ag f h λah ag v h'=>fF P os (j+1) ah ag K (aX f o.dst v) h'
def jm:List dA->Nat->List (Nat×ad)->bn->(List (Nat×ad)->bn->(Nat->Value)->ad->Prop)->(Nat->Value)->ad->Prop
 | [],_,ah,ag,K,f,h=>K ah ag f h
 | o::os,j,ah,ag,K,f,h=>jV o.op o.pre j ah ag h λah ag v h'=>jm os (j+1) ah ag K (aX f o.dst v) h'
def fE (P:Program):List (Option (Nat×Bool)×List dA)->Nat->List (Nat×ad)->bn->((Nat->Value)->ad->Prop)->(Nat->Value)->ad->Prop
 | [],_,_,_,K,f,h=>K f h
 | (none,l)::gs,j,ah,ag,K,f,h=>fF P l j ah ag (λah ag f h=>fE P gs (j+l.length) ah ag K f h) f h
 | (some (s,b),l)::gs,j,ah,ag,K,f,h=>
  dI (f s) b (fF P l j ah ag (λah ag f h=>fE P gs (j+l.length) ah ag K f h) f h)
   (jm l j ah ag (λah ag f h=>fE P gs (j+l.length) ah ag K f h) f h)
def aG (next:(Nat->Value)->ad->Prop) (K:Exit->(Nat->Value)->ad->Prop):Exit->(Nat->Value)->ad->Prop
 | .normal,f,h=>next f h
 | e,f,h=>K e f h
def bz (id:Nat) (K:Exit->(Nat->Value)->ad->Prop):Exit->(Nat->Value)->ad->Prop
 | .exit i,f,h=>if i=id then K .normal f h else K (.exit i) f h
 | e,f,h=>K e f h
def iG (c:Value) (a b:Prop):Prop:=
 match c with
 | .bool t=>if t=true then a else b
 | _=>False
def qk (Q:(Nat->Value)->ad->Prop) (ls:List Nat) (vs:List Value) (h:ad):Prop:=Q (ep ls vs) h
def oH (init:List Value) (h:ad) (Q:(List Value->ad->Prop)->List Value->ad->Prop):Prop:=
 ∃(J:List Value->ad->Prop) (μ:List Value->ad->Nat),J init h/\∀(xs:List Value) (hx:ad),J xs hx->Q (λys hy=>J ys hy/\μ ys hy<μ xs hx) xs hx
abbrev av:=Exit->(Nat->Value)->ad->Prop
noncomputable def cM (P:Program) (c:bW):av->(Nat->Value)->ad->Prop:=
 bW.rec (motive:=λ_=>av->(Nat->Value)->ad->Prop)
  (λK f h=>K .normal f h)
  (λl K f h=>fE P l 0 [] [] (K .normal) f h)
  (λg l K f h=>jF P g l (K .normal) f h)
  (λ_ _ ia ib K f h=>ia (aG (ib K) K) f h)
  (λls _ ic K f h=>qk (ic K) ls (ls.map f) h)
  (λc _ _ ia ib K f h=>iG (ev f c) (ia K f h) (ib K f h))
  (λid _ ic K f h=>ic (bz id K) f h)
  (λks ls _ ic K f h=>oH (ls.map f) h λL xs hx=>ic (aG (λf' aP=>ks.map f'=ks.map f/\L (ls.map f') aP) K) (ep (ks++ls) (ks.map f++xs)) hx)
  (λid K f h=>K (.exit id) f h)
  (λK f h=>K .ret f h)
  (λg ls c K f h=>ko P (ev f g) ls (ls.map f) c h (K .normal f)) c
theorem Ai {P:Program} {c:Operand} {a b:bW} {K:av} {f:Nat->Value} {h:ad}:cM P (.cond c a b) K f h=iG (ev f c) (cM P a K f h) (cM P b K f h):=rfl
def jT (P:Program) (op:Op):Option cN:=
 match cJ P op with
 | some o=>some (.p o)
 | none=>match jd P op with
  | some o=>some (.l o)
  | none=>match cO P op with
   | some o=>some (.e o)
   | none=>match op with
    | .call { callee:=.value (.func f),args,.. }=>if gY P f then some (.call f args.toList) else none
    | .call { callee:=.value x,args,.. }=>some (.ed x args.toList)
    | _=>none
def qh (N:Nat) (ops:Array Oper):Option (Nat×Bool)->Option (Option (Nat×Bool))
 | none=>some none
 | some (j,b)=>match (ops[j]?).bind (·.dst) with
  | some s=>if s<N then some (some (s,b)) else none
  | none=>none
def kF (P:Program) (N:Nat) (ops:Array Oper) (o:Oper):Option cH:=
 if o.op.operands.all di&&o.dst.all (·<N) then
  match jT P o.op,qh N ops o.guard with
  | some op,some g=>some ⟨o.dst,op,g⟩
  | _,_=>none
 else none
def eS (P:Program) (N:Nat) (ops:Array Oper):List Oper->Option (List cH)
 | []=>some []
 | o::os=>match kF P N ops o,eS P N ops os with
  | some x,some xs=>some (x::xs)
  | _,_=>none
def ga.cj:ga->List Operand
 | .mv x | .un _ x | .conv _ x | .wm x | .vU x | .u5 x | .u6 x | .tx _ x | .tC _ _ _ x | .ve x | .ext x _=>[x]
 | .pick c a b=>[c,a,b]
 | .bin _ x y | .qu _ x y | .qw _ x y | .uS x y | .uQ _ _ _ x y | .sM _ x y | .sL _ _ x y=>[x,y]
 | .q8 _=>[]
 | .oJ _ xs=>xs
 | .rO x lo hi=>x::(lo.toList++hi.toList)
 | .rP _ _ x lo hi=>x::(lo.toList++hi.toList)
 | .fn _ first captured=>first++captured
 | .build _ parts=>parts.map (·.2.2)
 | .uR f x c=>[.func f,x,c]
def fU.cj:fU->List Operand
 | .load _ _ a=>[a]
 | .mc x=>[x]
 | .lookup _ _ m k=>[m,k]
 | .ra _ _ _ m k=>[m,k]
 | .q9 _ _ _ m k=>[m,k]
 | .entry it=>[it]
 | .obj x=>[x]
def eK.cj:eK->List Operand
 | .alloc _ _=>[]
 | .fc _ _ _ parts=>parts.map (·.2.2)
 | .make _ _ _ l c=>[l,c]
 | .fO _=>[]
def fS.cj:fS->List Operand
 | .fl a=>a.cj
 | .store _ a v=>[a,v]
 | .box _ x=>[x]
 | .alloc _ _=>[]
 | .fc _ _ _ parts=>parts.map (·.2.2)
 | .make _ _ _ l c=>[l,c]
 | .app _ _ _ s x=>[s,x]
 | .mkMap=>[]
 | .re _=>[]
 | .die=>[]
 | .fO _=>[]
 | .vb _ m k v=>[m,k,v]
 | .ti _ m k=>[m,k]
 | .vV x=>[x]
 | .next it=>[it]
 | .vc _ m k v=>[m,k,v]
 | .va m k v=>[m,k,v]
 | .copy d s=>[d,s]
def cN.cj:cN->List Operand
 | .p o=>o.cj
 | .l o=>o.cj
 | .e o=>o.cj
 | .call _ args=>args
 | .ed x args=>x::args
def tmpsOf:List Operand->List Nat
 | []=>[]
 | .tmp t::xs=>t::tmpsOf xs
 | _::xs=>tmpsOf xs
def cH.reads (o:cH):List Nat:=(match o.guard with | some (s,_)=>[s] | none=>[])++tmpsOf o.op.cj
def jJ (fX:List Nat):List Nat->Nat
 | []=>0
 | e::es=>(2^e ||| fX.getD e 0) ||| jJ fX es
def cZ:List (List Nat)->List Nat->List Nat
 | [],acc=>acc
 | es::r,acc=>cZ r (acc++[jJ acc es])
def iU (o:aK) (t:Nat):Bool:=o.op.dst==some t||o.op.reads.contains t
def mU (oj:aK) (j:Nat) (oi:aK) (i:Nat):Bool:=
 (i==j||(match oi.op.dst with
  | none=>true
  | some t=> !iU oj t||(if i<j then oj.pre.testBit i else oi.pre.testBit j)))&&
 (!(decide (i<j)&&oi.op.op.aV&&oj.op.op.aV)||oj.pre.testBit i)
def rv (l:List aK):Bool:=l.zipIdx.all λ(oj,j)=>l.zipIdx.all λ(oi,i)=>mU oj j oi i
def bE (o:Oper):List Nat:=o.after.toList.filterMap λe=>if Region.binds .any e then some e.on else none
def kD (ops:List Oper):Nat->Bool
 | i=>match ops with
  | []=>true
  | o::os=>(bE o).all (·<i)&&kD os (i+1)
def fB:List cH->List Nat->List aK
 | o::os,p::ps=>⟨o,p⟩::fB os ps
 | _,_=>[]
def tf (P:Program) (N:Nat) (ops:Array Oper):Option (List aK):=
 match eS P N ops ops.toList with
 | some ios=>
  if P.follows .mixedOrders&&kD ops.toList 0&&rv (fB ios (cZ (ops.toList.map bE) [])) then some (fB ios (cZ (ops.toList.map bE) [])) else none
 | none=>none
def cD (o:aK):Bool:=match o.op.op with | .e (.fl _)=>true | _=>false
def tD (l:List aK):List Nat:=
 l.zipIdx.filterMap λ(oi,i)=>
  if (match oi.op.op with | .e eo=>eo.rU.isSome | _=>false)&&oi.op.guard.isNone&&(l.zipIdx.any λ(oj,j)=>j != i&&oj.op.op.aV&& !(oi.pre.testBit j)&& !(oj.pre.testBit i)) then some i else none
def nH (o:cH):cH:=
 match o.op,o.guard with
 | .e eo,none=>match eo.rU with | some a=>⟨o.dst,.e (.fl a),none⟩ | none=>o
 | _,_=>o
def rb (pre:Nat):List Nat->Nat->Nat
 | [],_=>0
 | i::is,q=>(if pre.testBit i then 2^q else 0) ||| rb pre is (q+1)
def JE (l:List aK) (fl:List Nat):List Nat:=
 let zY:=λi=>fl.contains i||fl.any λa=>((l[a]?).map λo=>o.pre.testBit i).getD false
 (List.range l.length).filter zY++(List.range l.length).filter λi=> !zY i
def Ak (l:List aK) (fl perm:List Nat):List aK:=
 perm.filterMap λi=>(l[i]?).map λo=>⟨if fl.contains i then nH o.op else o.op,rb o.pre perm 0⟩
def qn:List Nat->Bool
 | []=>true
 | x::xs=> !(xs.contains x)&&qn xs
def mV (oj:aK) (j:Nat) (oi:aK) (i:Nat):Bool:=
 (i==j||(match oi.op.dst with
  | none=>true
  | some t=> !iU oj t||(if i<j then oj.pre.testBit i else oi.pre.testBit j)))&&
 (!(decide (i<j)&&oi.op.op.aV&&oj.op.op.aV&& !(cD oi)&& !(cD oj))||oj.pre.testBit i)
def iM (l:List aK):Nat:=l.length-((l.reverse.takeWhile λo=> !(cD o)).length)
def okF (l:List aK) (perm:List Nat) (fX:List Nat):Bool:=
 l.length==fX.length&&perm.length==fX.length&&qn perm&&perm.all (·<fX.length)&&
 (l.zipIdx.all λ(oj,j)=>l.zipIdx.all λ(oi,i)=>mV oj j oi i)&&
 (l.zipIdx.all λ(o,q)=>if q<iM l then !(o.op.op.aV)||cD o else !(cD o))&&
 (l.zipIdx.all λ(o,q)=>(List.range fX.length).all λk=>o.pre.testBit k==(fX.getD (perm.getD q 0) 0).testBit (perm.getD k 0))&&
 (l.zipIdx.all λ(o,_)=> !(cD o)||o.op.guard.isNone)
def qg (P:Program) (N:Nat) (ops:Array Oper):Option (List aK×List Nat):=
 match eS P N ops ops.toList with
 | some ios=>
  let fX:=cZ (ops.toList.map bE) []
  let l:=fB ios fX
  let fl:=tD l
  let perm:=JE l fl
  let l':=Ak l fl perm
  if P.follows .mixedOrders&&kD ops.toList 0&&okF l' perm fX then some (l',perm) else none
 | none=>none
def tg (P:Program) (N:Nat) (ops:Array Oper):Option (List aK):=
 match tf P N ops with
 | some l=>some l
 | none=>(qg P N ops).map Prod.fst
def jn:List cH->List (Option (Nat×Bool)×List ey)
 | []=>[]
 | o::os=>match jn os with
  | (g,l)::gs=>if o.guard=g then (g,⟨o.dst,o.op⟩::l)::gs else (o.guard,[⟨o.dst,o.op⟩])::(g,l)::gs
  | []=>[(o.guard,[⟨o.dst,o.op⟩])]
def leaves (g:Option (Nat×Bool)) (d:Option Nat):Bool:=
 match g with
 | some (s,_)=>d != some s
 | none=>true
def jU:List aK->List (Option (Nat×Bool)×List dA)
 | []=>[]
 | o::os=>match jU os with
  | (g,l)::gs=>if o.op.guard=g then (g,⟨o.op.dst,o.op.op,o.pre⟩::l)::gs else (o.op.guard,[⟨o.op.dst,o.op.op,o.pre⟩])::(g,l)::gs
  | []=>[(o.op.guard,[⟨o.op.dst,o.op.op,o.pre⟩])]
abbrev Hints:=List (List Nat)
def nE (ls:List Nat) (c:bW):bW:=
 match ls with
 | []=>c
 | l::ls=>.cut (l::ls) c
def kp:List (Option (Nat×Bool)×List ey)->Hints->bW×Hints
 | [],hs=>(.skip,hs)
 | (g,l)::gs,hs=>
  match gs,hs with
  | [],hs=>(.ops g l,hs)
  | gs,h::hs=>let r:=kp gs hs;(.seq (.ops g l) (nE h r.1),r.2)
  | gs,[]=>let r:=kp gs [];(.seq (.ops g l) r.1,r.2)
def cT (P:Program) (N:Nat):Code->Hints->Option (bW×Hints)
 | .skip,hs=>some (.skip,hs)
 | .region _ ops false,hs=>
  match eS P N ops ops.toList with
  | some l=>if l.all λo=>leaves o.guard o.dst then some (kp (jn l) hs) else none
  | none=>some (.ops none [⟨none,.e .die⟩],hs)
 | .region _ ops true,hs=>
  match tg P N ops with
  | some l=>if l.all λo=>leaves o.op.guard o.op.dst then some (.tl (jU l),hs) else none
  | none=>none
 | .seq a b,hs=>
  match cT P N a hs with
  | some (x,h::hs)=>match cT P N b hs with
   | some (y,hs)=>some (.seq x (nE h y),hs)
   | none=>none
  | some (x,[])=>match cT P N b [] with
   | some (y,hs)=>some (.seq x y,hs)
   | none=>none
  | none=>none
 | .cond c a b,hs=>if di c then match cT P N a hs with
  | some (x,hs)=>match cT P N b hs with
   | some (y,hs)=>some (.cond c x y,hs)
   | none=>none
  | none=>none
  else none
 | .block id c,hs=>match cT P N c hs with
  | some (x,hs)=>some (.block id x,hs)
  | none=>none
 | .loop c,hs=>
  match hs with
  | ks::ls::hs=>match cT P N c hs with
   | some (x,hs)=>some (.loop ks ls x,hs)
   | none=>none
  | _=>none
 | .exit id,hs=>some (.exit id,hs)
 | .ret,hs=>some (.ret,hs)
 | .rangeFunc g ps dF body,hs=>
  match hs with
  | ls::hs=>if di g&&ps.all (·<N) then some (.range g ls ⟨N,ps,dF,body⟩,hs) else none
  | []=>none
 | _,_=>none
def ek:Code->Bool
 | .seq a b=>ek a&&ek b
 | .cond _ a b=>ek a&&ek b
 | .block _ c=>ek c
 | .loop c=>ek c
 | .rangeFunc .. =>false
 | _=>true
section
variable {P : Program} {N : Nat}
def kB (P:Program) (N B:Nat) (ρ:ai) (h:ad) (w:World) (e:Exit) (f':Nat->Value) (h':ad):Exit->Act->World->Prop:=
 λe' a' w'=>e'=e/\∃ae,bD P N B ae f' h' a' w'/\Tr ρ h w ae h' w'
def cp (P:Program) (N:Nat) (out:Bool) (c:Code) (f:Nat->Value) (h:ad) (e:Exit) (f':Nat->Value) (h':ad):Prop:=
 ∀R,(out=true->R=none)->∀B ρ a w,bD P N B ρ f h a w->c.wpIn (FR R) 0 P (kB P N B ρ h w e f' h') a w
def pJ (P:Program) (N:Nat) (o:Oper) (f:Nat->Value) (h:ad) (v:Value) (h':ad):Prop:=
 ∀R B ρ a w,bD P N B ρ f h a w->∀(next:Act->World->Prop) (Q:Exit->Act->World->Prop),
  (∀ae v' w',af ae v v'->ar P ae h' w'->Tr ρ h w ae h' w'->next (a.put o.dst v') w')->o.wpIn (FR R) 0 P a w next Q
theorem rL {o:Oper} (hn:∀c,o.op≠ .defer c) (R:Option Nat) (g:Operand->Value):o.semAt R g=execOp g o:=by
 cases R with
 | none=>rfl
 | some l=>exact Oper.semAt_some l g o hn
theorem wB {R:Option Nat} {o:Oper} {a:Act} {w w':World} {next:Act->World->Prop} {Q:Exit->Act->World->Prop} {v:Value} (hn:∀c,o.op≠ .defer c)
  (he:(execOp a.eval o).run P w=.ok (.value v) w') (hk:next (a.put o.dst v) w'):o.wpIn (FR R) 0 P a w next Q:=by
 refine ⟨λ_ _=>trivial,?_⟩
 rw [rL hn,he,Oper.uponIn_value]
 exact hk
theorem LX {R:Option Nat} {o:Oper} {a:Act} {w w':World} {next:Act->World->Prop} {Q:Exit->Act->World->Prop} (hn:∀c,o.op≠ .defer c)
  (he:(execOp a.eval o).run P w=.ok .skip w') (hk:next (a.put o.dst undef) w'):o.wpIn (FR R) 0 P a w next Q:=by
 refine ⟨λ_ _=>trivial,?_⟩
 rw [rL hn,he,Oper.uponIn_skip]
 exact hk
theorem yY {f:FuncId} {args:Array Value} {w:World} {K:Ending->World->Prop} (h:Calls P f args w K) (R:Option Nat) (n:Nat):CallsIn (FR R) n P f args w K:=by
 cases R with
 | none=>exact callsIn_wide.2 h
 | some l=>exact (callsIn_wide (n:=n)).2 h
theorem KV {l:Nat} {f:FuncId} {tmps:Array Value} {dF body:Code} {w:World} {K:Ending->World->Prop} (h:RoundIn Fence.wide 0 P l f tmps dF body w K) (R:Option Nat):
  RoundIn (FR R) 0 P l f tmps dF body w K:=h
theorem s9 {f:FuncId} (h:gY P f=true) (args:Array Value) (w:World):(callFunc f args).run P w=.ok (.enter f args) w:=by
 unfold gY at h
 split at h
 ·rename_i fn hf
  simp only [and_eq_true,bne_iff_ne] at h
  obtain ⟨h1,h2⟩:=h
  have h3:fn.body≠none:=by
   intro hb
   simp [hb] at h2
  simp [callFunc,hf,h1,h3]
 ·cases h
theorem A6 {o:Oper} {f:Nat->Value} {h:ad} {g:FuncId} {args:List Value} {v:Value} {h':ad} (hc:l7 P g args h v h')
  (hd:∀c,o.op≠ .defer c)
  (he:∀B ρ a w,bD P N B ρ f h a w->∃args':Array Value,aC ρ args args'.toList/\(execOp a.eval o).run P w=.ok (.enter g args') w):pJ P N o f h v h':=by
 intro r B ρ a w R next Q hn
 obtain ⟨args',hv,hr⟩:=he B ρ a w R
 refine ⟨λ_ _=>trivial,?_⟩
 rw [rL hd,hr,Oper.uponIn_enter]
 refine ⟨λh=>(by cases h),?_⟩
 refine (yY (hc ρ args' w hv R.heap) r _).mono ?_
 rintro e w' ⟨v',ae,rfl,h1,h2,h3⟩
 exact hn ae v' w' h1 h2 h3
theorem Jv {o:Oper} {f:Nat->Value} {h:ad} {i:Nat} {args:List Value} {v:Value} {h':ad} (hc:sd P i args h v h')
  (hd:∀c,o.op≠ .defer c)
  (he:∀B ρ a w,bD P N B ρ f h a w->∃(r:RI) (args':Array Value),ρ i=some r/\aC ρ args args'.toList/\(execOp a.eval o).run P w=(Instr.yield r.aD args').run P w):pJ P N o f h v h':=by
 intro R' B ρ a w R next Q hn
 obtain ⟨r,args',hi,hv,hr⟩:=he B ρ a w R
 obtain ⟨fn,tmps,dF,body,e1,e2⟩:=hc ρ r args' w hi hv R.heap
 refine ⟨λ_ _=>trivial,?_⟩
 rw [rL hd,hr,e1,Oper.uponIn_round]
 refine ⟨λh=>(by cases h),?_⟩
 refine (KV e2 R').mono ?_
 rintro e w' ⟨v',ae,rfl,h1,h2,h3⟩
 exact hn ae v' w' h1 h2 h3
theorem FF {op:Op} {io:cN} (h:jT P op=some io):∀c,op≠ .defer c:=by
 rintro c rfl
 simp [jT,cJ,jd,cO] at h
theorem y4 {op:Op} {io:cN} (h:jT P op=some io):(∃o,io=.p o/\cJ P op=some o)∨(∃o,io=.l o/\jd P op=some o)∨(∃o,io=.e o/\cO P op=some o)∨
  (∃f args at_,op=.call ⟨.value (.func f),args,at_⟩/\gY P f=true/\io=.call f args.toList)∨(∃x args at_,op=.call ⟨.value x,args,at_⟩/\io=.ed x args.toList):=by
 unfold jT at h
 split at h
 ·rename_i o ho;simp at h;exact .inl ⟨o,h.symm,ho⟩
 ·split at h
  ·rename_i o ho;simp at h;exact .inr (.inl ⟨o,h.symm,ho⟩)
  ·split at h
   ·rename_i o ho;simp at h;exact .inr (.inr (.inl ⟨o,h.symm,ho⟩))
   ·split at h
    ·split at h
     ·rename_i hc;simp at h;exact .inr (.inr (.inr (.inl ⟨_,_,_,rfl,hc,h.symm⟩)))
     ·cases h
    ·simp at h;exact .inr (.inr (.inr (.inr ⟨_,_,_,rfl,h.symm⟩)))
    ·cases h
theorem mR {o:Oper} {io:cN} {f:Nat->Value} {h:ad} {K:Value->ad->Prop} (hc:jT P o.op=some io) (ak:o.op.operands.all di=true) (hs:aR P io f h K):
  ∃v h',pJ P N o f h v h'/\K v h':=by
 have hX:=FF hc
 rcases y4 hc with ⟨po,rfl,hp⟩ | ⟨lo,rfl,hl⟩ | ⟨eo,rfl,he⟩ | ⟨g,args,at_,ho,eL,rfl⟩ | ⟨x,args,at_,ho,rfl⟩
 ·simp only [aR,bK] at hs
  split at hs
  ·rename_i v hv
   refine ⟨v,h,?_,hs⟩
   intro _ B ρ a w R next Q hn
   obtain ⟨v',h1,h2⟩:=JI w hp ak R.heap.aL (λx hx=>R.ev hx) hv
   exact wB hX h1 (hn ρ v' w h2 R.heap (Tr.refl R.heap))
  ·exact hs.elim
 ·simp only [aR,bK] at hs
  split at hs
  ·rename_i v hv
   refine ⟨v,h,?_,hs⟩
   intro _ B ρ a w R next Q hn
   obtain ⟨v',h1,h2⟩:=Jl hl ak R.heap (λx hx=>R.ev hx) hv
   exact wB hX h1 (hn ρ v' w h2 R.heap (Tr.refl R.heap))
  ·exact hs.elim
 ·simp only [aR,fe] at hs
  split at hs
  ·rename_i v h' hv
   refine ⟨v,h',?_,hs⟩
   intro _ B ρ a w R next Q hn
   obtain ⟨nx,w',ae,v',e1,e2,e3,e4,e5⟩:=Gd he ak R.heap (λx hx=>R.ev hx) hv
   rcases e2 with rfl | ⟨rfl,rfl⟩
   ·exact wB hX e1 (hn ae v' w' e3 e4 e5)
   ·exact LX hX e1 (hn ae undef w' e3 e4 e5)
  ·exact hs.elim
 ·obtain ⟨v,h',kS,hk⟩:=hs
  refine ⟨v,h',A6 kS hX ?_,hk⟩
  intro B ρ a w R
  rw [ho] at ak
  simp [Op.operands,Call.operands] at ak
  refine ⟨args.map a.eval,by simpa using aC.lE (λx hx=>R.ev hx) (xs:=args.toList) (by simpa using ak.2),?_⟩
  simp [execOp,ho,resolve,Act.eval,Deferred.ofValue,invoke,s9 eL]
 ·simp only [aR,iF] at hs
  rw [ho] at ak
  simp [Op.operands,Call.operands] at ak
  split at hs
  ·rename_i g first cap hx
   obtain ⟨eL,v,h',kS,hk⟩:=hs
   refine ⟨v,h',A6 kS hX ?_,hk⟩
   intro B ρ a w R
   have hr:=R.ev (x:=x) ak.1
   rw [hx] at hr
   generalize hy:a.eval x=y at hr
   cases hr with
   | func _ s1 s2 r1 r2=>
    rename_i tA tb
    refine ⟨tA++args.map a.eval++tb,?_,?_⟩
    ·have q1:=aC.kr s1 r1
     have q2:=aC.lE (λx hx=>R.ev hx) (xs:=args.toList) (by simpa using ak.2)
     have q3:=aC.kr s2 r2
     simpa using (q1.append q2).append q3
    ·simp [execOp,ho,resolve,hy,Deferred.ofValue,invoke,s9 eL]
  ·rename_i i first cap hx
   obtain ⟨⟨rfl,rfl⟩,v,h',kS,hk⟩:=hs
   refine ⟨v,h',Jv kS hX ?_,hk⟩
   intro B ρ a w R
   have hr:=R.ev (x:=x) ak.1
   rw [hx] at hr
   generalize hy:a.eval x=y at hr
   cases hr with
   | yield hi=>
    rename_i r
    refine ⟨r,args.map a.eval,hi,by simpa using aC.lE (λx hx=>R.ev hx) (xs:=args.toList) (by simpa using ak.2),?_⟩
    simp [execOp,ho,resolve,hy,Deferred.ofValue,invoke]
  ·exact hs.elim
end
end
end Go.Sim
