/-
  Part 1 of the texts behind a statement of this seat: Sim1, Sim2, Sim3, Sim4, Sim5, Sim6, Sim7, Sim8, Sim7d, Sim9, Sim9g, Sim10, Sim11, Sim12, Sim13, Sim14.
-/
import Derived.WalkKit
import Derived.Laws.Append
import Derived.Laws.AppendOwn
import Derived.Laws.MakeOwn
import Derived.Laws.BytesString
import Derived.RangeFuncRecord
import Derived.Lib.Bytealg
import Derived.WalkSpells
import Derived.WideKeyArr
import Derived.MapKept
import Derived.Laws.CopyRow
import Derived.Laws.IdiomCopy
open Array (ext' getElem?_eq_getElem getElem?_toList)
open Bool (and_eq_true)
open List (all_eq_true getElem?_append_left getElem?_set_ne mem_of_getElem?)
open Nat (add_mul le_refl le_trans zero_add)
open Option (bind_eq_some_iff map_eq_some_iff)
namespace Go.Sim
section
theorem dp {p : Prop} [Decidable p] (h : ¬p) : decide p = false := decide_eq_false h
theorem gG {p : Prop} [Decidable p] (h : p) : decide p = true := decide_eq_true h
theorem dB {n m : Nat} (h : Nat.ble n m = true) : n <= m := Nat.le_of_ble_eq_true h
theorem bu {α : Type} {l : List α} {i : Nat} {a : α} (h : l[i]? = some a) : ∃ h : i < l.length, l[i] = a := List.getElem?_eq_some_iff.1 h
structure RI where
 aD:Nat
 sh:Nat
 elem:TypeId
 aL:Nat
 size:Nat
abbrev ai:=Nat->Option RI
structure od where
 N:Nat
 ps:Array Tmp
 dM:Code
 body:Code
inductive cg where
 | int (k:IntKind)
 | str
 | ints (n:Nat) (k:IntKind)
 deriving DecidableEq
def fu (k:IntKind):Value->Bool
 | .int k' _=>decide (k'=k)
 | _=>false
def wu (k:IntKind):Value->Bool
 | .int _ n=>decide (k.min<=n)&&decide (n<=k.max)
 | _=>false
def bU:cg->Value->Bool
 | .int k,v=>fu k v
 | .str,.string _=>true
 | .ints n k,.agg cs=>decide (cs.size=n)&&cs.toList.all λv=>fu k v&&wu k v
 | _,_=>false
inductive ay where
 | ro (e:TypeId) (xs:List Value)
 | arr (e:TypeId) (xs:List Value)
 | smap (es:List (ByteArray×Value))
 | dY (kd:IntKind) (es:List (Int×Value))
 | ct (g:cg) (clock:Nat) (es:List (Nat×Value×Value))
 | iter (m sP:Nat) (seen:List Nat) (last:Nat)
 | loop (c:od) (ls:List Nat) (vs:List Value)
 | dead
abbrev ad:=List ay
abbrev zm:Value:=.complex .f32 0 0
def ey:List Nat->List Value->Nat->Value
 | l::ls,v::vs,j=>match Nat.beq j l with | true=>v | false=>ey ls vs j
 | _,_,_=>zm
theorem Ls (l:Nat) (ls:List Nat) (v:Value) (vs:List Value) (j:Nat):ey (l::ls) (v::vs) j=if j=l then v else ey ls vs j:=by
 show (match Nat.beq j l with | true=>v | false=>ey ls vs j)=_
 split
 ·rename_i h;rw [if_pos (Nat.eq_of_beq_eq_true h)]
 ·rename_i h;rw [if_neg (Nat.ne_of_beq_eq_false h)]
def cz:Value->Bool
 | .agg _ | .tuple _ | .complex _ _ _=>false
 | _=>true
inductive af (ρ:ai):Value->Value->Prop
 | bool (b:Bool):af ρ (.bool b) (.bool b)
 | int (k:IntKind) (n:Int):af ρ (.int k n) (.int k n)
 | string (s:ByteArray):af ρ (.string s) (.string s)
 | nilPtr:af ρ (.pointer none) (.pointer none)
 | gV:af ρ (.slice none 0 0) (.slice none 0 0)
 | jA:af ρ (.map none) (.map none)
 | nilFunc:af ρ .nilFunc .nilFunc
 | nilIface:af ρ .nilIface .nilIface
 | ptr {i o:Nat} {r:RI}:ρ i=some r->af ρ (.pointer (some ⟨i,o,none⟩)) (.pointer (some ⟨r.aD,r.sh+o,none⟩))
 | slice {i o n o' c':Nat} {r:RI}:ρ i=some r->(o'=r.sh+o∨(n=0/\0<o/\c'=0))->n<=c'->c'<=maxLen->o'+c'*r.aL<=r.size->
   af ρ (.slice (some ⟨i,o,some r.elem⟩) n n) (.slice (some ⟨r.aD,o',none⟩) n c')
 | void (a:Addr):af ρ (.slice none 0 1) (.slice (some a) 0 0)
 | map {i:Nat} {r:RI}:ρ i=some r->af ρ (.map (some i)) (.map (some r.aD))
 | func (f:FuncId) {xs ys xs' jg:Array Value}:xs.size=xs'.size->ys.size=jg.size->
   (∀(k:Nat) (x x':Value),xs[k]?=some x->xs'[k]?=some x'->af ρ x x')->
   (∀(k:Nat) (x x':Value),ys[k]?=some x->jg[k]?=some x'->af ρ x x')->af ρ (.func (.func f) xs ys) (.func (.func f) xs' jg)
 | yield {i:Nat} {r:RI}:ρ i=some r->af ρ (.func (.yield i) #[] #[]) (.func (.yield r.aD) #[] #[])
 | agg {xs xs':Array Value}:xs.size=xs'.size->(∀x∈xs.toList,cz x=true)->(∀(k:Nat) (x x':Value),xs[k]?=some x->xs'[k]?=some x'->af ρ x x')->af ρ (.agg xs) (.agg xs')
 | any (v:Value):af ρ (.complex .f32 0 0) v
 | tuple {xs xs':Array Value}:xs.size=xs'.size->(∀(k:Nat) (x x':Value),xs[k]?=some x->xs'[k]?=some x'->af ρ x x')->af ρ (.tuple xs) (.tuple xs')
def ai.le (ρ ae:ai):Prop:=∀i r,ρ i=some r->ae i=some r
theorem ai.le.refl (ρ:ai):ρ.le ρ:=λ_ _ h=>h
theorem ai.le.trans {a b c:ai} (h:a.le b) (k:b.le c):a.le c:=λi r e=>k i r (h i r e)
theorem af.mono {ρ ae:ai} (h:ρ.le ae) {v v':Value} (hv:af ρ v v'):af ae v v':=by
 induction hv with
 | bool b=>exact .bool b
 | int k n=>exact .int k n
 | string s=>exact .string s
 | nilPtr=>exact .nilPtr
 | gV=>exact .gV
 | jA=>exact .jA
 | nilFunc=>exact .nilFunc
 | nilIface=>exact .nilIface
 | ptr hi=>exact .ptr (h _ _ hi)
 | slice hi a b c d=>exact .slice (h _ _ hi) a b c d
 | void a=>exact .void a
 | map hi=>exact .map (h _ _ hi)
 | func f a b _ _ wi wj=>exact .func f a b (λk x x' e e'=>wi k x x' e e') (λk x x' e e'=>wj k x x' e e')
 | yield hi=>exact .yield (h _ _ hi)
 | agg a b _ ih=>exact .agg a b (λk x x' e e'=>ih k x x' e e')
 | any v=>exact .any v
 | tuple a _ ih=>exact .tuple a (λk x x' e e'=>ih k x x' e e')
theorem af.undef (ρ:ai):af ρ undef undef:=.tuple rfl (λk x x' e e'=>by simp at e)
inductive aC (ρ:ai):List Value->List Value->Prop
 | nil:aC ρ [] []
 | cons {x y:Value} {xs ys:List Value}:af ρ x y->aC ρ xs ys->aC ρ (x::xs) (y::ys)
theorem aC.mono {ρ ae:ai} (h:ρ.le ae) {xs ys:List Value} (hv:aC ρ xs ys):aC ae xs ys:=by
 induction hv with
 | nil=>exact .nil
 | cons a _ ih=>exact .cons (a.mono h) ih
theorem aC.length {ρ:ai} {xs ys:List Value} (hv:aC ρ xs ys):xs.length=ys.length:=by
 induction hv with
 | nil=>rfl
 | cons _ _ ih=>simp [ih]
theorem aC.get {ρ:ai} {xs ys:List Value} (hv:aC ρ xs ys):∀{k:Nat} {x:Value},xs[k]?=some x->∃y,ys[k]?=some y/\af ρ x y:=by
 induction hv with
 | nil=>intro k x h;simp at h
 | cons a _ ih=>
  intro k x h
  cases k with
  | zero=>simp at h;subst h;exact ⟨_,by simp,a⟩
  | succ k=>simp at h;obtain ⟨y,hy,hr⟩:=ih h;exact ⟨y,by simpa using hy,hr⟩
theorem aC.append {ρ:ai} {xs ys xs' jg:List Value} (h:aC ρ xs ys) (h':aC ρ xs' jg):aC ρ (xs++xs') (ys++jg):=by
 induction h with
 | nil=>exact h'
 | cons a _ ih=>exact .cons a ih
theorem aC.wQ {ρ:ai}:∀{xs ys:List Value},xs.length=ys.length->(∀(k:Nat) (x y:Value),xs[k]?=some x->ys[k]?=some y->af ρ x y)->aC ρ xs ys
 | [],[],_,_=>.nil
 | x::xs,y::ys,hl,h=>.cons (h 0 x y rfl rfl) (aC.wQ (by simpa using hl) λk a b ha hb=>h (k+1) a b (by simpa using ha) (by simpa using hb))
theorem aC.take {ρ:ai} {xs ys:List Value} (h:aC ρ xs ys):∀n,aC ρ (xs.take n) (ys.take n):=by
 induction h with
 | nil=>intro n;simp;exact .nil
 | cons a _ ih=>intro n;cases n with
  | zero=>exact .nil
  | succ n=>exact .cons a (ih n)
theorem aC.drop {ρ:ai} {xs ys:List Value} (h:aC ρ xs ys):∀n,aC ρ (xs.drop n) (ys.drop n):=by
 induction h with
 | nil=>intro n;simp;exact .nil
 | cons a b ih=>intro n;cases n with
  | zero=>exact .cons a b
  | succ n=>exact ih n
theorem aC.la {ρ:ai} {xs xs':Array Value} (hs:xs.size=xs'.size) (h:∀(k:Nat) (x x':Value),xs[k]?=some x->xs'[k]?=some x'->af ρ x x'):aC ρ xs.toList xs'.toList:=
 aC.wQ (by simpa using hs) λk x y hx hy=>h k x y (by simpa using hx) (by simpa using hy)
theorem aC.ofList {ρ:ai} {xs xs':List Value} (h:aC ρ xs xs'):∀(k:Nat) (x x':Value),xs.toArray[k]?=some x->xs'.toArray[k]?=some x'->af ρ x x':=by
 intro k x x' hx bL
 obtain ⟨y,hy,hr⟩:=h.get (k:=k) (x:=x) (by simpa using hx)
 simp at bL
 rw [hy] at bL
 cases bL
 exact hr
theorem af.oq {ρ:ai} {xs xs':List Value} (h:aC ρ xs xs') (h1:∀x∈xs,cz x=true):af ρ (.agg xs.toArray) (.agg xs'.toArray):=.agg (by simpa using h.length) (by simpa using h1) h.ofList
theorem af.jF {ρ:ai} {xs xs':List Value} (h:aC ρ xs xs'):af ρ (.tuple xs.toArray) (.tuple xs'.toArray):=.tuple (by simpa using h.length) h.ofList
def bc (v:Value):List Value:=v.cells.toList
def dI:Value->Bool
 | .tuple _ | .complex _ _ _=>false
 | _=>true
theorem af.cells {ρ:ai} {v v':Value} (h:af ρ v v') (hn:dI v=true):aC ρ (bc v) (bc v'):=by
 cases h with
 | any _=>simp [dI] at hn
 | agg hs _ h=>exact aC.la hs h
 | bool b=>exact .cons (.bool b) .nil
 | int k n=>exact .cons (.int k n) .nil
 | string s=>exact .cons (.string s) .nil
 | nilPtr=>exact .cons .nilPtr .nil
 | gV=>exact .cons .gV .nil
 | jA=>exact .cons .jA .nil
 | nilFunc=>exact .cons .nilFunc .nil
 | nilIface=>exact .cons .nilIface .nil
 | ptr hi=>exact .cons (.ptr hi) .nil
 | slice hi a b c d=>exact .cons (.slice hi a b c d) .nil
 | void a=>exact .cons (.void a) .nil
 | map hi=>exact .cons (.map hi) .nil
 | func f a b c d=>exact .cons (.func f a b c d) .nil
 | yield hi=>exact .cons (.yield hi) .nil
 | tuple a b=>simp [dI] at hn
def bC (h:ad) (i:Nat):Prop:=∃o,h[i]?=some o/\o≠ .dead
def aH (h:ad) (i:Nat):Prop:=(∃e xs,h[i]?=some (.arr e xs))∨(∃es,h[i]?=some (.smap es))∨(∃c ls vs,h[i]?=some (.loop c ls vs))∨(∃kd es,h[i]?=some (.dY kd es))∨(∃g c es,h[i]?=some (.ct g c es))∨(∃m s n l,h[i]?=some (.iter m s n l))
theorem aH.live {h:ad} {i:Nat} (hm:aH h i):bC h i:=by
 rcases hm with ⟨e,xs,hm⟩ | ⟨es,hm⟩ | ⟨c,ls,vs,hm⟩ | ⟨kd,es,hm⟩ | ⟨g,c,es,hm⟩ | ⟨m,s,n,l,hm⟩
 ·exact ⟨_,hm,by simp⟩
 ·exact ⟨_,hm,by simp⟩
 ·exact ⟨_,hm,by simp⟩
 ·exact ⟨_,hm,by simp⟩
 ·exact ⟨_,hm,by simp⟩
 ·exact ⟨_,hm,by simp⟩
def b0 (ρ:ai) (c:Array Value) (sh:Nat) (xs:List Value):Prop:=∀(j:Nat) (x:Value),xs[j]?=some x->cz x=true/\∃y,c[sh+j]?=some y/\af ρ x y
theorem af.pO {ρ:ai} {v v':Value} (h:af ρ v v') (hc:cz v=true):v'.oneCell'=true:=by
 cases h <;> first | rfl | simp [cz] at hc
theorem aC.pO {ρ:ai} {xs ys:List Value} (h:aC ρ xs ys) (h1:∀x∈xs,cz x=true):∀y∈ys,y.oneCell'=true:=by
 induction h with
 | nil=>intro y hy;simp at hy
 | cons a _ ih=>
  intro y hy
  rcases List.mem_cons.1 hy with rfl | hy
  ·exact a.pO (h1 _ (by simp))
  ·exact ih (λx hx=>h1 x (by simp [hx])) y hy
theorem af.qU {ρ:ai} {v v':Value} (h:af ρ v v') (ht:dI v=true):∀x∈bc v,cz x=true:=by
 cases h with
 | agg hs h1 h=>exact h1
 | tuple _ _=>simp [dI] at ht
 | any _=>simp [dI] at ht
 | _=>intro x hx;simp [bc,Value.cells] at hx;subst hx;rfl
theorem b0.of {ρ:ai} {xs:List Value} {c:Array Value} (h:aC ρ xs c.toList) (h1:∀x∈xs,cz x=true):b0 ρ c 0 xs:=by
 intro j x hj
 obtain ⟨y,hy,hr⟩:=h.get hj
 exact ⟨h1 x (mem_of_getElem? hj),y,by simpa using hy,hr⟩
def eN (ρ:ai) (w:World) (r:RI):ay->Prop
 | .ro e xs=>r.elem=e/\∃c t fr,w.heap[r.aD]?=some (.cells c t fr)/\c.size=r.size/\b0 ρ c r.sh xs
 | .arr e xs=>r.elem=e/\r.sh=0/\∃c,w.heap[r.aD]?=some (.cells c e (0,0))/\c.size=r.size/\b0 ρ c 0 xs
 | .smap es=>∃ak clock,w.heap[r.aD]?=some (.map ak clock)/\ak.size=es.length/\
   ∀(j:Nat) (k:ByteArray) (v:Value),es[j]?=some (k,v)->∃en,ak[j]?=some en/\en.key=.string k/\af ρ v en.val
 | .dY kd es=>∃ak clock,w.heap[r.aD]?=some (.map ak clock)/\ak.size=es.length/\
   ∀(j:Nat) (k:Int) (v:Value),es[j]?=some (k,v)->∃en,ak[j]?=some en/\en.key=.int kd k/\af ρ v en.val
 | .ct g clock es=>(es.map λe=>e.2.1).Nodup/\∃ak,w.heap[r.aD]?=some (.map ak clock)/\ak.size=es.length/\
   ∀(j b:Nat) (k v:Value),es[j]?=some (b,k,v)->bU g k=true/\∃en,ak[j]?=some en/\en.key=k/\en.born=b/\af ρ v en.val
 | .iter m sP seen last=>r.sh=0/\∃rm,ρ m=some rm/\w.heap[r.aD]?=some (.mapIter (some rm.aD) sP seen.toArray last)
 | .loop c ls vs=>∃rec,w.heap[r.aD]?=some (.loop rec)/\rec.state=.ready/\rec.pending=none/\rec.assign=c.dM/\rec.body=c.body/\rec.params=c.ps/\rec.tmps.size=c.N/\
   ∀t,af ρ (ey ls vs t) (rec.tmps.getD t Go.undef)
 | .dead=>True
structure av (P:Program) (ρ:ai) (h:ad) (w:World):Prop where
 obj:∀i r,ρ i=some r->∃o,h[i]?=some o/\eN ρ w r o
 inj:∀i j r s,ρ i=some r->ρ j=some s->r.aD=s.aD->aH h i->bC h j->i=j
 aL:∀i r,ρ i=some r->r.aL=P.cellsOf r.elem
theorem av.lt {P:Program} {ρ:ai} {h:ad} {w:World} (H:av P ρ h w) {i:Nat} {r:RI} (hi:ρ i=some r):i<h.length:=by
 obtain ⟨o,ho,_⟩:=H.obj i r hi
 exact (bu ho).1
structure Tr (ρ:ai) (h:ad) (w:World) (ae:ai) (h':ad) (w':World):Prop where
 ext:ρ.le ae
 len:h.length<=h'.length
 cW:∀i r,ρ i=some r->i<h.length
 kinds:∀i,i<h.length->aH h' i->aH h i
 fresh:∀i r,ae i=some r->ρ i=none->h.length<=i/\(w.heap.size<=r.aD∨∃j s,ρ j=some s/\s.aD=r.aD/\aH h j)
 cu:w.heap.size<=w'.heap.size
 cq:∀b,b<w.heap.size->(∀j s,ρ j=some s->s.aD=b->¬aH h j)->w'.heap[b]?=w.heap[b]?
 os:w'.os=w.os
 tape:w'.tape=w.tape
 output:w'.output=w.output
theorem Tr.refl {P:Program} {ρ:ai} {h:ad} {w:World} (H:av P ρ h w):Tr ρ h w ρ h w where
 ext:=.refl _
 len:=le_refl _
 cW:=λ_ _ hi=>H.lt hi
 kinds:=λ_ _ h=>h
 fresh:=λi r h1 h2=>by rw [h1] at h2;cases h2
 cu:=le_refl _
 cq:=λ_ _ _=>rfl
 os:=rfl
 tape:=rfl
 output:=rfl
theorem Tr.trans {mP yr Ex:ai} {h₁ Bx rR:ad} {ja tf Es:World} (a:Tr mP h₁ ja yr Bx tf) (b:Tr yr Bx tf Ex rR Es):Tr mP h₁ ja Ex rR Es where
 ext:=a.ext.trans b.ext
 len:=le_trans a.len b.len
 cW:=a.cW
 kinds:=λi hi hm=>a.kinds i hi (b.kinds i (Nat.lt_of_lt_of_le hi a.len) hm)
 fresh:=by
  intro i r h3 h1
  cases h2:yr i with
  | some r2=>
   have:=b.ext i r2 h2
   rw [h3] at this
   cases this
   exact a.fresh i r h2 h1
  | none=>
   obtain ⟨hl,hb⟩:=b.fresh i r h3 h2
   refine ⟨le_trans a.len hl,?_⟩
   rcases hb with hb | ⟨j,s,hj,hs,hm⟩
   ·exact .inl (le_trans a.cu hb)
   ·cases jY:mP j with
    | some s'=>
     have:=a.ext j s' jY
     rw [hj] at this
     cases this
     exact .inr ⟨j,s,jY,hs,a.kinds j (a.cW j s jY) hm⟩
    | none=>
     obtain ⟨_,h⟩:=a.fresh j s hj jY
     rw [hs] at h
     rcases h with h | ⟨j',s',q1,q2,q3⟩
     ·exact .inl h
     ·exact .inr ⟨j',s',q1,q2,q3⟩
 cu:=le_trans a.cu b.cu
 cq:=by
  intro k hk aP
  rw [b.cq k (Nat.lt_of_lt_of_le hk a.cu) ?_,a.cq k hk aP]
  intro j s hj hs hm
  cases jY:mP j with
  | some s'=>
   have:=a.ext j s' jY
   rw [hj] at this
   cases this
   exact aP j s jY hs (a.kinds j (a.cW j s jY) hm)
  | none=>
   obtain ⟨_,h⟩:=a.fresh j s hj jY
   rcases h with h | ⟨j',s',q1,q2,q3⟩
   ·omega
   ·exact aP j' s' q1 (by omega) q3
 os:=b.os.trans a.os
 tape:=b.tape.trans a.tape
 output:=b.output.trans a.output
theorem av.drew {P:Program} {ρ:ai} {h:ad} {w:World} (H:av P ρ h w) (n:Nat):av P ρ h { w with drawn:=n }:=
 ⟨λi r hi=>let ⟨o,ho,hr⟩:=H.obj i r hi;⟨o,ho,by cases o <;> exact hr⟩,H.inj,H.aL⟩
theorem Tr.drew {P:Program} {ρ:ai} {h:ad} {w:World} (H:av P ρ h w) (n:Nat):Tr ρ h w ρ h { w with drawn:=n } where
 ext:=.refl _
 len:=le_refl _
 cW:=λ_ _ hi=>H.lt hi
 kinds:=λ_ _ h=>h
 fresh:=λi r h1 h2=>by rw [h1] at h2;cases h2
 cu:=le_refl _
 cq:=λ_ _ _=>rfl
 os:=rfl
 tape:=rfl
 output:=rfl
def mark (D:Nat):Deferred:={ target:=.collected D,args:=#[] }
def marks (B:Nat):List Deferred->World->Prop
 | [],w=>B<=w.heap.size
 | d::ds,w=>(∃D,d=mark D/\B<=D/\w.heap[D]?=some (.deferred (some []))/\∀d'∈ds,d'≠mark D)/\marks B ds w
theorem av.wO {P:Program} {ρ:ai} {h:ad} {w:World} (H:av P ρ h w) {D:Nat} {x:Option (List Deferred)} (hD:w.heap[D]?=some (.deferred x)) {j:Nat} {s:RI} (hj:ρ j=some s) (hs:s.aD=D):¬bC h j:=by
 rintro ⟨o,ho,aV⟩
 obtain ⟨o',bm,hr⟩:=H.obj j s hj
 rw [ho] at bm
 cases bm
 subst hs
 cases o with
 | ro e xs=>obtain ⟨_,c,_,fr,h2,_⟩:=hr;rw [hD] at h2;cases h2
 | arr e xs=>obtain ⟨_,_,c,h2,_⟩:=hr;rw [hD] at h2;cases h2
 | smap es=>obtain ⟨ak,clock,h1,_⟩:=hr;rw [hD] at h1;cases h1
 | dY kd es=>obtain ⟨ak,clock,h1,_⟩:=hr;rw [hD] at h1;cases h1
 | ct g c es=>obtain ⟨_,ak,h1,_⟩:=hr;rw [hD] at h1;cases h1
 | iter m s n l=>obtain ⟨_,rm,_,h1⟩:=hr;rw [hD] at h1;cases h1
 | loop c ls vs=>obtain ⟨rec,h1,_⟩:=hr;rw [hD] at h1;cases h1
 | dead=>exact aV rfl
theorem marks.tr {P:Program} {ρ ae:ai} {h h':ad} {w w':World} (H:av P ρ h w) (T:Tr ρ h w ae h' w') {B:Nat}:∀{ds:List Deferred},marks B ds w->marks B ds w'
 | [],hb=>le_trans hb T.cu
 | d::ds,⟨⟨D,h1,h2,h3,h4⟩,h5⟩=>
  ⟨⟨D,h1,h2,by rw [T.cq D (Array.getElem?_eq_some_iff.1 h3).1 λj s hj hs hm=>H.wO h3 hj hs hm.live];exact h3,h4⟩,marks.tr H T h5⟩
theorem marks.lt {B:Nat} {w:World}:∀{ds:List Deferred},marks B ds w->∀d∈ds,∃D,d=mark D/\D<w.heap.size
 | [],_,d,hd=>by simp at hd
 | d::ds,⟨⟨D,h1,h2,h3,h4⟩,h5⟩,d',hd=>by
  rcases List.mem_cons.1 hd with rfl | hd
  ·exact ⟨D,h1,(Array.getElem?_eq_some_iff.1 h3).1⟩
  ·exact marks.lt h5 d' hd
theorem marks.base {B:Nat} {w:World}:∀{ds:List Deferred},marks B ds w->B<=w.heap.size
 | [],h=>h
 | _::_,h=>marks.base h.2
theorem B7 {a b:Nat} (h:mark a=mark b):a=b:=by
 simp [mark] at h
 exact h
structure bA (P:Program) (N:Nat) (B:Nat) (ρ:ai) (f:Nat->Value) (h:ad) (a:Act) (w:World):Prop where
 size:a.tmps.size=N
 defers:marks B a.defers w
 tmp:∀t,af ρ (f t) (a.tmps.getD t Go.undef)
 heap:av P ρ h w
def lg (f:Nat->Value) (t:Nat) (v:Value):Nat->Value:=λj=>match Nat.beq j t with | true=>v | false=>f j
theorem iY (f:Nat->Value) (t:Nat) (v:Value):lg f t v=λj=>if j=t then v else f j:=by
 funext j
 unfold lg
 split
 ·rename_i h;rw [if_pos (Nat.eq_of_beq_eq_true h)]
 ·rename_i h;rw [if_neg (Nat.ne_of_beq_eq_false h)]
def ev (f:Nat->Value):Operand->Value
 | .tmp t=>f t
 | .const v=>v
 | .global g=>.pointer (some ⟨g,0,none⟩)
 | .func f=>.func (.func f) #[] #[]
def eE:Value->Bool
 | .bool _ | .int .. | .string _ | .nilFunc | .nilIface=>true
 | .pointer none | .map none=>true
 | .slice none 0 0=>true
 | _=>false
def df:Operand->Bool
 | .tmp _=>true
 | .const v=>eE v
 | .global _=>false
 | .func _=>true
theorem eE.rel {ρ:ai} {v:Value} (h:eE v=true):af ρ v v:=by
 unfold eE at h
 split at h
 ·exact .bool _
 ·exact .int _ _
 ·exact .string _
 ·exact .nilFunc
 ·exact .nilIface
 ·exact .nilPtr
 ·exact .jA
 ·exact .gV
 ·simp at h
theorem bA.ev {P:Program} {N B:Nat} {ρ:ai} {f:Nat->Value} {h:ad} {a:Act} {w:World} (R:bA P N B ρ f h a w) {x:Operand} (hx:df x=true):
  af ρ (ev f x) (a.eval x):=by
 cases x with
 | tmp t=>exact R.tmp t
 | const v=>exact eE.rel hx
 | global g=>simp [df] at hx
 | func g=>exact .func g rfl rfl (λk x x' e e'=>by simp at e) (λk x x' e e'=>by simp at e)
theorem bA.put {P:Program} {N B:Nat} {ρ ae:ai} {f:Nat->Value} {h h':ad} {a:Act} {w w':World} (R:bA P N B ρ f h a w) {d:Nat} (hd:d<N) {v v':Value}
  (T:Tr ρ h w ae h' w') (hv:af ae v v') (H:av P ae h' w'):bA P N B ae (lg f d v) h' (a.put (some d) v') w' where
 size:=by simp [Act.put,R.size]
 defers:=marks.tr R.heap T R.defers
 tmp:=by
  intro t
  simp only [iY]
  by_cases ht:t=d
  ·subst ht
   have:t<a.tmps.size:=by rw [R.size];exact hd
   simp [Act.put,Array.getD,this]
   exact hv
  ·rw [if_neg ht]
   have:=(R.tmp t).mono T.ext
   have e:((a.put (some d) v').tmps.getD t Go.undef)=a.tmps.getD t Go.undef:=by
    simp only [Act.put,Array.getD_eq_getD_getElem?,Array.getElem?_setIfInBounds]
    rw [if_neg (by omega)]
   rw [e]
   exact this
 heap:=H
theorem bA.mono {P:Program} {N B:Nat} {ρ ae:ai} {f:Nat->Value} {h h':ad} {a:Act} {w w':World} (R:bA P N B ρ f h a w) (T:Tr ρ h w ae h' w') (H:av P ae h' w'):
  bA P N B ae f h' a w':=⟨R.size,marks.tr R.heap T R.defers,λt=>(R.tmp t).mono T.ext,H⟩
end
section
def S (l:List UInt8):Value:=.string ⟨l.toArray⟩
def bytes (s:ByteArray):List UInt8:=s.data.toList
theorem Gb (l:List UInt8):bytes ⟨l.toArray⟩=l:=by simp [bytes]
theorem pJ (s:ByteArray):(⟨(bytes s).toArray⟩:ByteArray)=s:=by simp [bytes]
inductive gE where
 | mv (x:Operand)
 | pick (c a b:Operand)
 | bin (op:BinOp) (x y:Operand)
 | rb (neg:Bool) (x y:Operand)
 | re (neg:Bool) (x y:Operand)
 | un (op:UnOp) (x:Operand)
 | conv (k:IntKind) (x:Operand)
 | xJ (x:Operand)
 | xp (x:Operand)
 | wE (x:Operand)
 | wF (x:Operand)
 | r6 (n:Nat)
 | pI (mx:Bool) (xs:List Operand)
 | wh (x i:Operand)
 | we (n aL:Nat) (agg:Bool) (x i:Operand)
 | tX (aL:Nat) (x i:Operand)
 | tW (n aL:Nat) (x i:Operand)
 | uP (off:Nat) (x:Operand)
 | uW (agg:Bool) (off sz:Nat) (x:Operand)
 | sQ (x:Operand) (lo hi:Option Operand)
 | sR (e:TypeId) (aL:Nat) (x:Operand) (lo hi:Option Operand)
 | wM (x:Operand)
 | fn (f:FuncId) (first captured:List Operand)
 | ext (x:Operand) (i:Nat)
 | build (zero:List Value) (parts:List (Nat×Nat×Operand))
 | wg (f:FuncId) (x c:Operand)
def fP (op:BinOp) (k:IntKind) (a b:Int):Option Value:=
 match op with
 | .add=>some (.int k (k.wrap (a+b)))
 | .sub=>some (.int k (k.wrap (a-b)))
 | .mul=>some (.int k (k.wrap (a*b)))
 | .quo=>if b=0 then none else some (.int k (k.wrap (a.tdiv b)))
 | .rem=>if b=0 then none else some (.int k (a.tmod b))
 | .and=>some (.int k (k.wrap (BitVec.ofInt k.bits a &&& BitVec.ofInt k.bits b).toNat))
 | .or=>some (.int k (k.wrap (BitVec.ofInt k.bits a ||| BitVec.ofInt k.bits b).toNat))
 | .xor=>some (.int k (k.wrap (BitVec.ofInt k.bits a^^^BitVec.ofInt k.bits b).toNat))
 | .andNot=>some (.int k (k.wrap (BitVec.ofInt k.bits a &&& ~~~BitVec.ofInt k.bits b).toNat))
 | .eql=>some (.bool (decide (a=b)))
 | .neq=>some (.bool (!decide (a=b)))
 | .lss=>some (.bool (decide (a<b)))
 | .leq=>some (.bool (decide (a<=b)))
 | .gtr=>some (.bool (decide (b<a)))
 | .geq=>some (.bool (decide (b<=a)))
 | _=>none
def mm (op:BinOp) (k:IntKind) (a b:Int):Option Value:=
 if b<0 then none else
 match op with
 | .shl=>some (.int k (k.wrap (a*2^(min b.toNat k.bits))))
 | .shr=>some (.int k (a.fdiv (2^(min b.toNat k.bits))))
 | _=>none
def mn (op:BinOp) (a b:List UInt8):Option Value:=
 match op with
 | .add=>if a.length+b.length<=maxLen then some (S (a++b)) else none
 | .eql=>some (.bool (decide (a=b)))
 | .neq=>some (.bool (!decide (a=b)))
 | .lss=>some (.bool (Op.bytesLess a b))
 | .leq=>some (.bool (Op.bytesLess a b||decide (a=b)))
 | .gtr=>some (.bool (!(Op.bytesLess a b||decide (a=b))))
 | .geq=>some (.bool (!Op.bytesLess a b))
 | _=>none
def au (op:BinOp) (x y:Value):Option Value:=
 match x,y with
 | .int k a,.int k' b=>
  match op with
  | .shl=>mm .shl k a b
  | .shr=>mm .shr k a b
  | op=>if k=k' then fP op k a b else none
 | .string s,.string t=>mn op (bytes s) (bytes t)
 | _,_=>none
def rT (neg:Bool) (x y:Value):Option Value:=
 match x,y with
 | .bool a,.bool b=>some (.bool (if neg then !(a==b) else a==b))
 | _,_=>none
def r4:Value->Option Bool
 | .slice none 0 0=>some true
 | .slice (some _) _ _=>some false
 | _=>none
def vU (neg:Bool) (x y:Value):Option Value:=
 match r4 x,r4 y with
 | some a,some b=>if a||b then some (.bool (if neg then !(a&&b) else a&&b)) else none
 | _,_=>none
def gS (op:UnOp) (x:Value):Option Value:=
 match op,x with
 | .neg,.int k n=>some (.int k (k.wrap (0-n)))
 | .not,.bool b=>some (.bool !b)
 | .xor,.int k n=>some (.int k (k.wrap (BitVec.ofInt k.bits (if k.signed then -1 else k.max)^^^BitVec.ofInt k.bits n).toNat))
 | _,_=>none
def iO (k:IntKind):Value->Option Value
 | .int _ n=>some (.int k (k.wrap n))
 | _=>none
def pC (x:Value):Option Value:=
 match x with
 | .int _ n=>some (.string (Utf8.encode n))
 | _=>none
def Bz:Value->Option Value
 | .string s=>some (.string s)
 | _=>none
def ft:Value->Option Value
 | .string s=>some (.int .i64 (bytes s).length)
 | _=>none
def eK:Value->Option Value
 | .slice _ n _=>some (.int .i64 n)
 | _=>none
def max2 (mx:Bool):Value->Value->Option Value
 | .int k x,.int _ y=>some (.int k (if mx then (if y>x then y else x) else (if y<x then y else x)))
 | _,_=>none
def gR (mx:Bool):List Value->Option Value
 | .int k x::rest=>rest.foldlM (max2 mx) (.int k x)
 | _=>none
def eX (x i:Value):Option Value:=
 match x,i with
 | .string s,.int _ i=>if 0<=i then ((bytes s)[i.toNat]?).map λb=>.int .u8 b.toNat else none
 | _,_=>none
def cY (agg:Bool) (off sz:Nat) (cs:List Value):Option Value:=
 if agg then (if off+sz<=cs.length then some (.agg ((cs.drop off).take sz).toArray) else none) else cs[off]?
def vW (n aL:Nat) (agg:Bool) (x i:Value):Option Value:=
 match x,i with
 | .agg cs,.int _ i=>if 0<=i/\i<n then cY agg (i.toNat*aL) aL cs.toList else none
 | _,_=>none
def cd (aL:Nat) (x i:Value):Option Value:=
 match x,i with
 | .slice (some ⟨id,o,some _⟩) n _,.int _ i=>if 0<=i/\i<n then some (.pointer (some ⟨id,o+i.toNat*aL,none⟩)) else none
 | _,_=>none
def fq (n aL:Nat) (x i:Value):Option Value:=
 match x,i with
 | .pointer (some ⟨id,o,none⟩),.int _ i=>if 0<=i/\i<n then some (.pointer (some ⟨id,o+i.toNat*aL,none⟩)) else none
 | _,_=>none
def dR (off:Nat) (x:Value):Option Value:=
 match x with
 | .pointer (some ⟨id,o,none⟩)=>some (.pointer (some ⟨id,o+off,none⟩))
 | _=>none
def vV (agg:Bool) (off sz:Nat) (x:Value):Option Value:=
 match x with
 | .agg cs=>cY agg off sz cs.toList
 | _=>none
def mz:Value->Option Nat
 | .int _ i=>if 0<=i then some i.toNat else none
 | _=>none
def kS (n:Nat) (lo hi:Option Value):Option (Nat×Nat):=
 match (match lo with | none=>some 0 | some v=>mz v),(match hi with | none=>some n | some v=>mz v) with
 | some l,some h=>if l<=h/\h<=n then some (l,h) else none
 | _,_=>none
def gj (x:Value) (lo hi:Option Value):Option Value:=
 match x with
 | .string s=>(kS (bytes s).length lo hi).map λ(l,h)=>S (((bytes s).take h).drop l)
 | _=>none
def v7 (e:TypeId) (aL:Nat) (x:Value) (lo hi:Option Value):Option Value:=
 match x with
 | .slice none 0 0=>(kS 0 lo hi).map λ_=>.slice none 0 0
 | .slice (some ⟨id,o,some e'⟩) n _=>
  if e'=e then (kS n lo hi).map λ(l,h)=>.slice (some ⟨id,o+l*aL,some e⟩) (h-l) (h-l) else none
 | _=>none
def jy (x:Value):Option Value:=
 match x with
 | .pointer (some a)=>some (.pointer (some a))
 | .func f a b=>some (.func f a b)
 | _=>none
def dx (i:Nat) (x:Value):Option Value:=
 match x with
 | .tuple vs=>vs[i]?
 | _=>none
def setAt (xs:List Value) (o:Nat) (vs:List Value):List Value:=xs.take o++vs++xs.drop (o+vs.length)
def hP:List Value->List (Nat×Nat×Value)->Option (List Value)
 | xs,[]=>some xs
 | xs,(off,size,v)::rest=>
  if dI v/\(bc v).length=size/\off+size<=xs.length then hP (setAt xs off (bc v)) rest else none
def jx (zero:List Value) (parts:List (Nat×Nat×Value)):Option Value:=(hP zero parts).map λcs=>.agg cs.toArray
def dH (c a b:Value):Option Value:=
 match c with
 | .bool t=>some (if t then a else b)
 | _=>none
def pA (x c:Value):Option Value:=
 match x,c with
 | .string s,.int .u8 c=>some (.int .i64 (Lib.indexByte (bytes s) c.toNat.toUInt8))
 | _,_=>none
def cP (o:gE) (g:Operand->Value):Option Value:=
 match o with
 | .mv x=>some (g x)
 | .pick c a b=>dH (g c) (g a) (g b)
 | .bin op x y=>au op (g x) (g y)
 | .rb neg x y=>rT neg (g x) (g y)
 | .re neg x y=>vU neg (g x) (g y)
 | .un op x=>gS op (g x)
 | .conv k x=>iO k (g x)
 | .xJ x=>Bz (g x)
 | .xp x=>pC (g x)
 | .wE x=>ft (g x)
 | .wF x=>eK (g x)
 | .r6 n=>some (.int .i64 n)
 | .pI mx xs=>gR mx (xs.map g)
 | .wh x i=>eX (g x) (g i)
 | .we n aL agg x i=>vW n aL agg (g x) (g i)
 | .tX aL x i=>cd aL (g x) (g i)
 | .tW n aL x i=>fq n aL (g x) (g i)
 | .uP off x=>dR off (g x)
 | .uW agg off sz x=>vV agg off sz (g x)
 | .sQ x lo hi=>gj (g x) (lo.map g) (hi.map g)
 | .sR e aL x lo hi=>v7 e aL (g x) (lo.map g) (hi.map g)
 | .wM x=>jy (g x)
 | .fn f first captured=>some (.func (.func f) (first.map g).toArray (captured.map g).toArray)
 | .ext x i=>dx i (g x)
 | .build zero parts=>jx zero (parts.map λ(o,s,x)=>(o,s,g x))
 | .wg f x c=>
  match g (.func f) with
  | .func (.func f') a b=>if f'=f/\a.size=0/\b.size=0 then pA (g x) (g c) else none
  | _=>none
def fG:TypeDesc->Bool
 | .struct _ | .array _ _=>true
 | _=>false
def mY (v:Value):Bool:=eE v&&cz v
def zeroOf (P:Program) (t:TypeId):Option (List Value):=
 match P.info? t with
 | some i=>match i.zero with
  | some z=>if dI z&&(bc z).all mY&&(bc z).length==i.size then some (bc z) else none
  | none=>none
 | none=>none
def placesOf (P:Program) (fs:Array Field):List (Nat×Nat):=fs.toList.map λf=>(f.offset,P.cellsOf f.type)
def cy (P:Program) (t:TypeId):Bool:=(P.info? t).isSome
def uM (P:Program) (f:FuncId):Bool:=
 match P.funcs[f]? with
 | some fn=>fn.body.isNone&&fn.name== "internal/bytealg.IndexByteString" &&(Extern.findNext fn).isNone
 | none=>false
def cI (P:Program):Op->Option gE
 | .move x | .assign x=>some (.mv x)
 | .pick c a b=>some (.pick c a b)
 | .binOp op t x y _=>
  match op,P.underlying t with
  | .eql,some .bool=>some (.rb false x y)
  | .neq,some .bool=>some (.rb true x y)
  | .eql,some (.slice _)=>some (.re false x y)
  | .neq,some (.slice _)=>some (.re true x y)
  | op,_=>some (.bin op x y)
 | .unOp op _ x=>some (.un op x)
 | .convert s d x=>
  match P.underlying s,P.underlying d with
  | some (.int _),some (.int k)=>some (.conv k x)
  | some .string,some .string=>some (.xJ x)
  | some (.int _),some .string=>some (.xp x)
  | _,_=>none
 | .call { callee:=.builtin .len,args,argTypes }=>
  match args.toList,argTypes.toList with
  | [x],[t]=>
   match P.underlying t with
   | some .string=>some (.wE x)
   | some (.slice _)=>some (.wF x)
   | some (.array n _)=>some (.r6 n)
   | _=>none
  | _,_=>none
 | .call { callee:=.builtin .min,args,argTypes:=_ }=>some (.pI false args.toList)
 | .call { callee:=.builtin .max,args,argTypes:=_ }=>some (.pI true args.toList)
 | .call { callee:=.value (.func f),args,argTypes:=_ }=>
  match args.toList with
  | [x,c]=>if uM P f then some (.wg f x c) else none
  | _=>none
 | .index t x i=>
  match P.underlying t with
  | some .string=>some (.wh x i)
  | some (.array n e)=>
   match P.underlying e with
   | some d=>if cy P e&&(fG d||P.cellsOf e==1) then some (.we n (P.cellsOf e) (fG d) x i) else none
   | none=>none
  | _=>none
 | .indexAddr t x i=>
  match P.underlying t with
  | some (.slice e)=>if cy P e then some (.tX (P.cellsOf e) x i) else none
  | some (.array n e)=>if cy P e then some (.tW n (P.cellsOf e) x i) else none
  | _=>none
 | .fieldAddr t x f=>
  match P.underlying t with
  | some (.struct fs)=>
   match fs[f]? with
   | some fd=>if cy P fd.type&&P.cellsOf fd.type != 0 then some (.uP fd.offset x) else none
   | none=>none
  | _=>none
 | .field t x f=>
  match P.underlying t with
  | some (.struct fs)=>
   match fs[f]? with
   | some fd=>
    match P.underlying fd.type with
    | some d=>if cy P fd.type&&(fG d||P.cellsOf fd.type==1) then some (.uW (fG d) fd.offset (P.cellsOf fd.type) x) else none
    | none=>none
   | none=>none
  | _=>none
 | .slice t x lo hi mx=>
  match P.underlying t,mx with
  | some .string,none=>some (.sQ x lo hi)
  | some (.slice e),none=>if cy P e then some (.sR e (P.cellsOf e) x lo hi) else none
  | _,_=>none
 | .nilCheck x=>some (.wM x)
 | .makeFunc (.func f) first captured=>some (.fn f first.toList captured.toList)
 | .extract x i=>some (.ext x i)
 | .build t parts=>
  match P.underlying t,zeroOf P t with
  | some (.struct fs),some z=>
   if fs.all λf=>cy P f.type then
    match parts.toList.mapM (m:=Option) λ(i,x)=>(placesOf P fs)[i]? |>.map λ(o,s)=>(o,s,x) with
    | some ps=>some (.build z ps)
    | none=>none
   else none
  | some (.array _ e),some z=>if cy P e then some (.build z (parts.toList.map λ(i,x)=>(i*P.cellsOf e,P.cellsOf e,x))) else none
  | _,_=>none
 | _=>none
end
section
theorem af.dZ {ρ:ai} {k:IntKind} {n:Int} {v:Value} (h:af ρ (.int k n) v):v=.int k n:=by cases h;rfl
theorem af.mX {ρ:ai} {b:Bool} {v:Value} (h:af ρ (.bool b) v):v=.bool b:=by cases h;rfl
theorem af.jD {ρ:ai} {s:ByteArray} {v:Value} (h:af ρ (.string s) v):v=.string s:=by cases h;rfl
theorem af.S (ρ:ai) (l:List UInt8):af ρ (S l) (S l):=.string _
theorem toList_eq (s:ByteArray):s.toList=bytes s:=by
 obtain ⟨⟨l⟩⟩:=s
 exact ByteArray.toList_mk l
theorem Ga (s t:ByteArray):(s.toList==t.toList)=decide (bytes s=bytes t):=by
 rw [toList_eq,toList_eq]
 by_cases h:bytes s=bytes t <;> simp [h]
theorem pV (s:ByteArray):s.size=(bytes s).length:=by simp [bytes]
theorem F3 (s t:ByteArray):s++t=⟨(bytes s++bytes t).toArray⟩:=by
 apply ByteArray.ext
 apply ext'
 simp [bytes]
section
variable (P : Program) (w : World)
theorem Ns {op:BinOp} {k:IntKind} {a b:Int} {v:Value} (t:TypeId) (aQ:op≠ .shl) (Jv:op≠ .shr) (h:fP op k a b=some v):
  (binOp op t (.int k a) (.int k b)).run P w=.ok v w:=by
 cases op <;> simp [fP] at h <;> simp at aQ Jv <;> (first | subst h | (obtain ⟨hb,h⟩:=h;subst h)) <;>
  simp_all [binOp,Op.intArith,Op.intDiv,Op.intBits,Op.intCmp]
 ·rw [Bool.eq_iff_iff];simp
 ·rw [Bool.eq_iff_iff];simp
theorem D4 {op:BinOp} {k k':IntKind} {a b:Int} {v:Value} (t:TypeId) (aQ:op=.shl∨op=.shr) (h:mm op k a b=some v):
  (binOp op t (.int k a) (.int k' b)).run P w=.ok v w:=by
 unfold mm at h
 by_cases hb:b<0
 ·rw [if_pos hb] at h;cases h
 ·rw [if_neg hb] at h
  rcases aQ with rfl | rfl <;> simp at h <;> subst h <;> simp [binOp,Op.shift,hb]
theorem NH {op:BinOp} {s s':ByteArray} {v:Value} (t:TypeId) (h:mn op (bytes s) (bytes s')=some v):
  (binOp op t (.string s) (.string s')).run P w=.ok v w:=by
 have e1:=Ga s s'
 have hl:IntKind.i64.max=9223372036854775807:=rfl
 cases op <;> simp [mn] at h <;> (first | subst h | (obtain ⟨hb,h⟩:=h;subst h)) <;> simp only [binOp,Op.stringOp]
 all_goals first
  | (rw [e1];simp [toList_eq];done)
  | (simp [toList_eq];done)
  | skip
 ·unfold maxLen at hb
  rw [if_neg (by rw [hl,pV,pV];omega)]
  rw [F3]
  rfl
theorem M6 (op:BinOp) (t:TypeId) (x y:Operand) (k k':IntKind) (a b:Int):(eqGuard op t x y (.int k a) (.int k' b)).run P w=.ok () w:=by
 unfold eqGuard
 cases op <;> simp
theorem M8 (op:BinOp) (t:TypeId) (x y:Operand) (a b:ByteArray):(eqGuard op t x y (.string a) (.string b)).run P w=.ok () w:=by
 unfold eqGuard
 cases op <;> simp
theorem M5 (op:BinOp) (t:TypeId) (x y:Operand) (a b:Bool):(eqGuard op t x y (.bool a) (.bool b)).run P w=.ok () w:=by
 unfold eqGuard
 cases op <;> simp
theorem M7 (op:BinOp) (t:TypeId) (x y:Operand) (a b:Option Addr) (n m c d:Nat):(eqGuard op t x y (.slice a n c) (.slice b m d)).run P w=.ok () w:=by
 unfold eqGuard
 cases op <;> simp
theorem Nf {ρ:ai} {op:BinOp} {x y x' y' v:Value} (t:TypeId) (ox oy:Operand) (h:au op x y=some v) (hx:af ρ x x') (hy:af ρ y y'):
  (do eqGuard op t ox oy x' y';binOp op t x' y':Sem Value).run P w=.ok v w/\af ρ v v:=by
 unfold au at h
 split at h
 ·rename_i k a k' b
  rw [hx.dZ,hy.dZ]
  have hv:(binOp op t (.int k a) (.int k' b)).run P w=.ok v w/\af ρ v v:=by
   split at h
   ·refine ⟨D4 P w t (.inl rfl) h,?_⟩
    unfold mm at h
    split at h <;> simp at h
    subst h;exact .int _ _
   ·refine ⟨D4 P w t (.inr rfl) h,?_⟩
    unfold mm at h
    split at h <;> simp at h
    subst h;exact .int _ _
   ·rename_i h1 h2
    split at h
    ·rename_i hk
     subst hk
     refine ⟨Ns P w t h1 h2 h,?_⟩
     cases op <;> simp [fP] at h <;> (first | subst h | (obtain ⟨_,h⟩:=h;subst h)) <;> first | exact .int _ _ | exact .bool _
    ·cases h
  simp only [Sem.run_bind,M6,Result.andThen_ok]
  exact hv
 ·rename_i s s'
  rw [hx.jD,hy.jD]
  simp only [Sem.run_bind,M8,Result.andThen_ok]
  refine ⟨NH P w t h,?_⟩
  cases op <;> simp [mn] at h <;> (first | subst h | (obtain ⟨_,h⟩:=h;subst h)) <;> first | exact .string _ | exact .bool _
 ·cases h
theorem DX {ρ:ai} {neg:Bool} {op:BinOp} {x y x' y' v:Value} (t:TypeId) (ox oy:Operand) (ht:P.underlying t=some .bool) (aQ:op=if neg then .neq else .eql)
  (h:rT neg x y=some v) (hx:af ρ x x') (hy:af ρ y y'):
  (do eqGuard op t ox oy x' y';binOp op t x' y':Sem Value).run P w=.ok v w/\af ρ v v:=by
 unfold rT at h
 split at h
 ·rename_i a b
  rw [hx.mX,hy.mX]
  simp only [Sem.run_bind,M5,Result.andThen_ok]
  simp at h
  subst h
  refine ⟨?_,.bool _⟩
  cases neg <;> simp at aQ <;> subst aQ
  ·exact run_eql_bool w t a b ht
  ·exact run_neq_bool w t a b ht
 ·cases h
theorem DY {ρ:ai} {neg:Bool} {op:BinOp} {x y x' y' v:Value} {e:TypeId} (t:TypeId) (ox oy:Operand) (ht:P.underlying t=some (.slice e)) (aQ:op=if neg then .neq else .eql)
  (h:vU neg x y=some v) (hx:af ρ x x') (hy:af ρ y y'):
  (do eqGuard op t ox oy x' y';binOp op t x' y':Sem Value).run P w=.ok v w/\af ρ v v:=by
 unfold vU at h
 split at h
 ·rename_i a b ha hb
  split at h
  ·rename_i np
   simp at h
   subst h
   refine ⟨?_,.bool _⟩
   cases hx <;> simp [r4] at ha <;> cases hy <;> simp [r4] at hb <;> subst ha <;> subst hb <;> simp at np
   all_goals
    simp only [Sem.run_bind,M7,Result.andThen_ok]
    cases neg <;> simp at aQ <;> subst aQ <;> simp only [Lib.run_eql_slice_nil w t e _ _ _ _ _ ht,run_neq_slice_nil_any w t e _ _ _ _ _ ht,run_eql_nil_slice w t e _ _ _ _ _ ht,run_neq_nil_slice w t e _ _ _ _ _ ht] <;> simp
  ·cases h
 ·cases h
theorem NI {ρ:ai} {op:UnOp} {x x' v:Value} (h:gS op x=some v) (hx:af ρ x x'):(Op.unary op x').run P w=.ok v w/\af ρ v v:=by
 unfold gS at h
 split at h
 ·rw [hx.dZ];simp at h;subst h;exact ⟨by simp [Op.unary,Op.intArith],.int _ _⟩
 ·rw [hx.mX];simp at h;subst h;exact ⟨by simp [Op.unary],.bool _⟩
 ·rw [hx.dZ];simp only [Option.some.injEq] at h;subst h;exact ⟨rfl,.int _ _⟩
 ·cases h
end
end
section
section
variable {P : Program} (w : World)
theorem Ky {t:TypeId} (h:cy P t=true):∃i,P.info? t=some i:=by
 unfold cy at h
 exact Option.isSome_iff_exists.1 h
theorem gX {t:TypeId} (h:cy P t=true):(sizeOf t).run P w=.ok (P.cellsOf t) w:=by
 obtain ⟨i,hi⟩:=Ky h
 exact run_sizeOf w hi
theorem xB {t:TypeId} {d:TypeDesc} (h:P.underlying t=some d):(isAgg t).run P w=.ok (fG d) w:=by
 cases d <;> simp [isAgg,run_underlying h,fG]
theorem Lm {mx:Bool} {k:IntKind} {x:Int} {y v:Value} (h:max2 mx (.int k x) y=some v):∃k' b,y=.int k' b/\∃z,v=.int k z:=by
 unfold max2 at h
 split at h
 ·rename_i k2 x2 k3 y2 e
  cases e
  simp at h
  exact ⟨k3,y2,rfl,_,h.symm⟩
 ·cases h
theorem xC {ρ:ai} {mx:Bool}:∀{xs xs':List Value} {k:IntKind} {x:Int} {v:Value},xs.foldlM (max2 mx) (.int k x)=some v->aC ρ xs xs'->
  (xs'.foldlM (if mx then Builtin.max2 else Builtin.min2) (.int k x):Sem Value).run P w=.ok v w/\af ρ v v
 | [],xs',k,x,v,h,hs=>by
  cases hs
  simp at h
  subst h
  exact ⟨rfl,.int _ _⟩
 | y::xs,xs',k,x,v,h,hs=>by
  cases hs with
  | cons hy hs=>
   simp only [List.foldlM_cons,Option.bind_eq_bind,bind_eq_some_iff] at h
   obtain ⟨u,hu,h⟩:=h
   obtain ⟨k',b,rfl,z,rfl⟩:=Lm hu
   have ih:=xC (ρ:=ρ) h hs
   refine ⟨?_,ih.2⟩
   rw [hy.dZ]
   simp only [List.foldlM_cons,Sem.run_bind]
   simp only [max2,Option.some.injEq,Value.int.injEq,true_and] at hu
   cases mx
   ·simp at hu⊢
    simp only [Builtin.min2,Sem.run_pure,Result.andThen_ok,hu]
    simpa using ih.1
   ·simp at hu⊢
    simp only [Builtin.max2,Sem.run_pure,Result.andThen_ok,gt_iff_lt,hu]
    simpa using ih.1
theorem Nr {ρ:ai} {t:TypeId} {x i x' i' v:Value} (ht:P.underlying t=some .string) (h:eX x i=some v) (hx:af ρ x x') (hi:af ρ i i'):
  (Instr.index t x' i').run P w=.ok v w/\af ρ v v:=by
 unfold eX at h
 split at h
 ·rename_i s k j
  rw [hx.jD,hi.dZ]
  split at h
  ·rename_i h0
   simp only [map_eq_some_iff] at h
   obtain ⟨b,hb,rfl⟩:=h
   refine ⟨?_,.int _ _⟩
   have fh:s[j.toNat]?=some b:=by
    have hlt:=(bu hb).1
    have:j.toNat<s.size:=by rw [pV];exact hlt
    rw [getElem?_pos s j.toNat this]
    have e:=(bu hb).2
    simp only [bytes,Array.getElem_toList] at e
    rw [<-e]
    rfl
   simp [Instr.index,asIntOf,run_underlying ht,h0,fh]
  ·cases h
 ·cases h
theorem Ko {ρ:ai} {agg:Bool} {off sz:Nat} {cs:List Value} {cV:Array Value} {v:Value} (h:cY agg off sz cs=some v) (hs:aC ρ cs cV.toList) (h1:∀x∈cs,cz x=true):
  ∃v',(if agg then some (.agg (cV.extract off (off+sz))) else cV[off]?)=some v'/\af ρ v v':=by
 unfold cY at h
 cases agg
 ·simp at h⊢
  obtain ⟨y,hy,hr⟩:=hs.get h
  exact ⟨y,by simpa using hy,hr⟩
 ·simp at h⊢
  obtain ⟨hl,rfl⟩:=h
  have:=((hs.drop off).take sz)
  have e:(cV.extract off (off+sz))=((cV.toList.drop off).take sz).toArray:=by
   apply ext'
   simp [List.take_drop]
  rw [e]
  exact .oq this (λx hx=>h1 x (List.mem_of_mem_drop (List.mem_of_mem_take hx)))
theorem D3 {ρ:ai} {t:TypeId} {d:TypeDesc} {off:Nat} {cs:List Value} {cV:Array Value} {v:Value} (ht:P.underlying t=some d) (hk:cy P t=true)
  (h:cY (fG d) off (P.cellsOf t) cs=some v) (hs:aC ρ cs cV.toList) (h1:∀x∈cs,cz x=true):
  ∃v',(part t cV off).run P w=.ok v' w/\af ρ v v':=by
 obtain ⟨v',hv,hr⟩:=Ko h hs h1
 refine ⟨v',?_,hr⟩
 unfold part
 simp only [Sem.run_bind,xB w ht,Result.andThen_ok]
 cases hd:fG d
 ·rw [hd] at hv
  simp at hv⊢
  rw [hv]
  rfl
 ·rw [hd] at hv
  simp at hv⊢
  simp only [gX w hk,Result.andThen_ok,hv]
theorem af.zg {ρ:ai} {cs:Array Value} {x':Value} (h:af ρ (.agg cs) x'):∃cV,x'=.agg cV/\aC ρ cs.toList cV.toList/\∀x∈cs.toList,cz x=true:=by
 cases h with
 | agg hs h1 h=>exact ⟨_,rfl,aC.la hs h,h1⟩
theorem Nq {ρ:ai} {t e:TypeId} {d:TypeDesc} {n:Nat} {x i x' i' v:Value} (ht:P.underlying t=some (.array n e)) (he:P.underlying e=some d) (hk:cy P e=true)
  (h:vW n (P.cellsOf e) (fG d) x i=some v) (hx:af ρ x x') (hi:af ρ i i'):
  ∃v',(Instr.index t x' i').run P w=.ok v' w/\af ρ v v':=by
 unfold vW at h
 split at h
 ·rename_i cs k j
  obtain ⟨cV,rfl,hs,h1⟩:=hx.zg
  rw [hi.dZ]
  split at h
  ·rename_i h0
   obtain ⟨v',hr,hv⟩:=D3 w he hk h hs h1
   refine ⟨v',?_,hv⟩
   simp [Instr.index,asIntOf,run_underlying ht,h0,gX w hk,hr]
  ·cases h
 ·cases h
theorem Np {ρ:ai} {t:TypeId} {fs:Array Field} {f:Nat} {fd:Field} {d:TypeDesc} {x x' v:Value} (ht:P.underlying t=some (.struct fs)) (hf:fs[f]?=some fd) (he:P.underlying fd.type=some d)
  (hk:cy P fd.type=true) (h:vV (fG d) fd.offset (P.cellsOf fd.type) x=some v) (hx:af ρ x x'):
  ∃v',(Instr.field t x' f).run P w=.ok v' w/\af ρ v v':=by
 unfold vV at h
 split at h
 ·rename_i cs
  obtain ⟨cV,rfl,hs,h1⟩:=hx.zg
  obtain ⟨v',hr,hv⟩:=D3 w he hk h hs h1
  refine ⟨v',?_,hv⟩
  simp [Instr.field,run_underlying ht,hf,asAgg,hr]
 ·cases h
theorem Na {ρ:ai} {t e:TypeId} {x i x' i' v:Value} (ht:P.underlying t=some (.slice e)) (hk:cy P e=true)
  (h:cd (P.cellsOf e) x i=some v) (hx:af ρ x x') (hi:af ρ i i'):
  ∃v',(Instr.indexAt t x' i').run P w=.ok v' w/\af ρ v v':=by
 unfold cd at h
 split at h
 ·rename_i id o e' n c k j
  split at h
  ·rename_i h0
   simp at h
   subst h
   rw [hi.dZ]
   cases hx with
   | slice hr ho hn hc hb=>
    rename_i o' c' r
    have bm:o'=r.sh+o:=by
     rcases ho with ho | ⟨h1,h2,h3⟩
     ·exact ho
     ·omega
    subst bm
    refine ⟨_,?_,af.ptr hr⟩
    simp [Instr.indexAt,asIntOf,run_underlying ht,h0,gX w hk,Addr.add_lit,Nat.add_assoc]
  ·cases h
 ·cases h
theorem af.pT {ρ:ai} {id o:Nat} {x':Value} (h:af ρ (.pointer (some ⟨id,o,none⟩)) x'):∃r,ρ id=some r/\x'=.pointer (some ⟨r.aD,r.sh+o,none⟩):=by
 cases h with
 | ptr hr=>exact ⟨_,hr,rfl⟩
theorem M9 {ρ:ai} {t e:TypeId} {n:Nat} {x i x' i' v:Value} (ht:P.underlying t=some (.array n e)) (hk:cy P e=true)
  (h:fq n (P.cellsOf e) x i=some v) (hx:af ρ x x') (hi:af ρ i i'):
  ∃v',(Instr.indexAt t x' i').run P w=.ok v' w/\af ρ v v':=by
 unfold fq at h
 split at h
 ·rename_i id o k j
  split at h
  ·rename_i h0
   simp at h
   subst h
   rw [hi.dZ]
   obtain ⟨r,hr,rfl⟩:=hx.pT
   refine ⟨_,?_,af.ptr hr⟩
   simp [Instr.indexAt,asIntOf,run_underlying ht,h0,gX w hk,Instr.sureAddr,Addr.add_lit,Nat.add_assoc]
  ·cases h
 ·cases h
theorem No {ρ:ai} {t:TypeId} {fs:Array Field} {f:Nat} {fd:Field} {x x' v:Value} (ht:P.underlying t=some (.struct fs)) (hf:fs[f]?=some fd) (hk:cy P fd.type=true)
  (hz:P.cellsOf fd.type≠0) (h:dR fd.offset x=some v) (hx:af ρ x x'):
  ∃v',(Instr.fieldAt t x' f).run P w=.ok v' w/\af ρ v v':=by
 unfold dR at h
 split at h
 ·rename_i id o
  simp at h
  subst h
  obtain ⟨r,hr,rfl⟩:=hx.pT
  refine ⟨_,?_,af.ptr hr⟩
  simp [Instr.fieldAt,run_underlying ht,hf,Instr.sureAddr,fieldPlace,gX w hk,hz,Addr.add_lit,Nat.add_assoc]
 ·cases h
theorem Cb {ρ:ai} {v v':Value} {n:Nat} (h:mz v=some n) (hv:af ρ v v'):∃k i,v'=.int k i/\0<=i/\i.toNat=n:=by
 unfold mz at h
 split at h
 ·rename_i k i
  rw [hv.dZ]
  split at h
  ·rename_i h0
   simp at h
   exact ⟨k,i,rfl,h0,h⟩
  ·cases h
 ·cases h
def lr (ρ:ai):Option Value->Option Value->Prop
 | none,none=>True
 | some a,some b=>af ρ a b
 | _,_=>False
theorem xA {ρ:ai} {n cap:Nat} {isSlice:Bool} {lo hi fS dc:Option Value} {l h:Nat} (he:kS n lo hi=some (l,h)) (hc:n<=cap) (bJ:lr ρ lo fS) (kO:lr ρ hi dc):
  (Instr.sliceBounds isSlice n cap fS dc none).run P w=.ok (l,h,cap) w/\l<=h/\h<=n:=by
 unfold kS at he
 split at he
 ·rename_i l1 h1 hl hh
  split at he
  ·rename_i hb
   simp at he
   obtain ⟨rfl,rfl⟩:=he
   refine ⟨?_,hb.1,hb.2⟩
   have bh:∀(v:Value),dc=some v->∃k i,v=.int k i/\0<=i/\i.toNat=h1:=by
    intro v hv
    subst hv
    cases hi with
    | none=>exact kO.elim
    | some u=>exact Cb hh kO
   have F5:dc=none->h1=n:=by
    intro hv
    subst hv
    cases hi with
    | none=>simpa using hh.symm
    | some u=>exact kO.elim
   have bl:∀(v:Value),fS=some v->∃k i,v=.int k i/\0<=i/\i.toNat=l1:=by
    intro v hv
    subst hv
    cases lo with
    | none=>exact bJ.elim
    | some u=>exact Cb hl bJ
   have zk:fS=none->l1=0:=by
    intro hv
    subst hv
    cases lo with
    | none=>simpa using hl.symm
    | some u=>exact bJ.elim
   unfold Instr.sliceBounds
   cases dc with
   | none=>
    obtain rfl:=F5 rfl
    cases fS with
    | none=>obtain rfl:=zk rfl;simp
    | some v=>
     obtain ⟨k,i,rfl,h0,rfl⟩:=bl v rfl
     have:i<=(h1:Int):=by omega
     simp [Instr.sliceBound,asIntOf,h0,this]
   | some u=>
    obtain ⟨k,i,rfl,h0,rfl⟩:=bh u rfl
    have rA:i<=(cap:Int):=by omega
    cases fS with
    | none=>obtain rfl:=zk rfl;simp [Instr.sliceBound,asIntOf,h0,rA]
    | some v=>
     obtain ⟨k2,j,rfl,h2,rfl⟩:=bl v rfl
     have:j<=i:=by omega
     simp [Instr.sliceBound,asIntOf,h0,rA,h2,this,Int.toNat_of_nonneg h0]
  ·cases he
 ·cases he
theorem Ig (s:ByteArray) (l h:Nat):s.extract l h=⟨(((bytes s).take h).drop l).toArray⟩:=by
 apply ByteArray.ext
 apply ext'
 simp only [bytes,ByteArray.data_extract,Array.toList_extract,List.drop_take]
theorem ND {ρ:ai} {t:TypeId} {x x' v:Value} {lo hi fS dc:Option Value} (ht:P.underlying t=some .string) (h:gj x lo hi=some v) (hx:af ρ x x')
  (bJ:lr ρ lo fS) (kO:lr ρ hi dc):(Instr.sliceAt t x' fS dc none).run P w=.ok v w/\af ρ v v:=by
 unfold gj at h
 split at h
 ·rename_i s
  rw [hx.jD]
  simp only [map_eq_some_iff,Prod.exists] at h
  obtain ⟨l,u,hb,rfl⟩:=h
  obtain ⟨hr,h1,h2⟩:=xA (P:=P) w (isSlice:=false) hb (le_refl _) bJ kO
  refine ⟨?_,af.S _ _⟩
  rw [<-pV] at hr
  simp [Instr.sliceAt,Instr.slice,run_underlying ht,hr,S,Ig]
 ·cases h
theorem NF {ρ:ai} {t e:TypeId} {x x' v:Value} {lo hi fS dc:Option Value} (hH:∀i r,ρ i=some r->r.aL=P.cellsOf r.elem) (ht:P.underlying t=some (.slice e)) (hk:cy P e=true)
  (h:v7 e (P.cellsOf e) x lo hi=some v) (hx:af ρ x x') (bJ:lr ρ lo fS) (kO:lr ρ hi dc):
  ∃v',(Instr.sliceAt t x' fS dc none).run P w=.ok v' w/\af ρ v v':=by
 unfold v7 at h
 split at h
 ·simp only [map_eq_some_iff,Prod.exists] at h
  obtain ⟨l,u,hb,rfl⟩:=h
  obtain ⟨hr,h1,h2⟩:=xA (P:=P) w (isSlice:=true) hb (le_refl _) bJ kO
  cases hx
  refine ⟨_,?_,.gV⟩
  obtain rfl:u=0:=by omega
  obtain rfl:l=0:=by omega
  simp [Instr.sliceAt,Instr.slice,run_underlying ht,hr,gX w hk]
 ·rename_i id o e' n c
  split at h
  ·rename_i vk
   subst vk
   simp only [map_eq_some_iff,Prod.exists] at h
   obtain ⟨l,u,hb,rfl⟩:=h
   cases hx with
   | slice hr ho hn hc jn=>
    rename_i o' c' r
    obtain ⟨cn,h1,h2⟩:=xA (P:=P) w (isSlice:=true) hb hn bJ kO
    have dV:=hH _ _ hr
    by_cases bI:c'=l
    ·refine ⟨.slice (some ⟨r.aD,o',none⟩) (u-l) (c' -l),?_,?_⟩
     ·rw [bI] at cn⊢
      simp [Instr.sliceAt,Instr.slice,run_underlying ht,cn,gX w hk]
     ·refine af.slice hr ?_ (by omega) (by omega) ?_
      ·rcases Nat.eq_zero_or_pos (l*P.cellsOf r.elem) with hz | hz
       ·rw [hz]
        rcases ho with ho | ⟨q1,q2,q3⟩
        ·exact .inl (by omega)
        ·exact .inr ⟨by omega,by omega,by omega⟩
       ·exact .inr ⟨by omega,by omega,by omega⟩
      ·have:c' -l=0:=by omega
       rw [this]
       have:o'<=o'+c'*r.aL:=Nat.le_add_right _ _
       omega
    ·refine ⟨.slice (some ⟨r.aD,o'+l*P.cellsOf r.elem,none⟩) (u-l) (c' -l),?_,?_⟩
     ·simp [Instr.sliceAt,Instr.slice,run_underlying ht,cn,gX w hk,bI,Addr.add_lit]
     ·refine af.slice hr ?_ (by omega) (by omega) ?_
      ·rcases ho with ho | ⟨q1,q2,q3⟩
       ·exact .inl (by omega)
       ·exfalso;omega
      ·rw [<-dV]
       have e1:l*r.aL+(c' -l)*r.aL=c'*r.aL:=by rw [<-add_mul];congr 1;omega
       omega
  ·cases h
 ·cases h
theorem NB {ρ:ai} {o:Oper} {ox:Operand} {g':Operand->Value} {x v:Value} (ho:o.op=.nilCheck ox) (h:jy x=some v) (hx:af ρ x (g' ox)):
  ∃v',(execOp g' o).run P w=.ok (.value v') w/\af ρ v v':=by
 unfold jy at h
 split at h
 ·simp at h
  subst h
  generalize hy:g' ox=y at hx
  have bL:=hx
  cases hx with
  | ptr hr=>
   refine ⟨_,?_,bL⟩
   simp [execOp,ho,hy]
 ·simp at h
  subst h
  generalize hy:g' ox=y at hx
  have bL:=hx
  cases hx with
  | func f a b c d=>
   refine ⟨_,?_,bL⟩
   simp [execOp,ho,hy]
  | yield hr=>
   refine ⟨_,?_,bL⟩
   simp [execOp,ho,hy]
 ·cases h
theorem Nn {ρ:ai} {x x' v:Value} {i:Nat} (h:dx i x=some v) (hx:af ρ x x'):∃v',(Instr.extract x' i).run P w=.ok v' w/\af ρ v v':=by
 unfold dx at h
 split at h
 ·cases hx with
  | tuple hs hr=>
   obtain ⟨y,hy,hv⟩:=(aC.la hs hr).get (k:=i) (x:=v) (by simpa using h)
   refine ⟨y,?_,hv⟩
   simp only [getElem?_toList] at hy
   simp [Instr.extract,hy]
 ·cases h
end
theorem aC.my {ρ:ai} {g g':Operand->Value} (hg:∀x,df x=true->af ρ (g x) (g' x)):∀{xs:List Operand},xs.all df=true->aC ρ (xs.map g) (xs.map g')
 | [],_=>.nil
 | x::xs,h=>by
  simp at h
  exact .cons (hg x h.1) (aC.my hg (by simpa using h.2))
end
section
theorem NO (l:List Value) (o:Nat) (v:Value) (vs:List Value) (h:o<l.length):setAt (l.set o v) (o+1) vs=setAt l o (v::vs):=by
 have e:l.set o v=l.take o++v::l.drop (o+1):=by rw [List.set_eq_take_append_cons_drop,if_pos h]
 have hl:(l.take o).length=o:=by simp;omega
 unfold setAt
 have e1:(l.set o v).take (o+1)=l.take o++[v]:=by
  rw [e,List.take_append,hl,List.take_of_length_le (by omega)]
  simp
 have e2:(l.set o v).drop (o+1+vs.length)=l.drop (o+(v::vs).length):=by
  rw [List.drop_set,if_pos (by omega)]
  congr 1
  simp
  omega
 rw [e1,e2]
 simp
theorem NR (vs:List Value):∀(off i:Nat) (cs:Array Value),off+i+vs.length<=cs.size->
  ((vs.zipIdx i).foldl (λcs (c,j)=>cs.setIfInBounds (off+j) c) cs).toList=setAt cs.toList (off+i) vs:=by
 induction vs with
 | nil=>intro off i cs h;simp [setAt]
 | cons v vs ih=>
  intro off i cs h
  simp only [List.zipIdx_cons,List.foldl_cons]
  rw [ih off (i+1) _ (by simp at h⊢;omega)]
  rw [Array.toList_setIfInBounds,show off+(i+1)=off+i+1 by omega]
  exact NO _ _ _ _ (by simp at h⊢;omega)
theorem NQ {ρ:ai} {xs ys:List Value} (h:aC ρ xs ys) {o:Nat} {vs dh:List Value} (hv:aC ρ vs dh):aC ρ (setAt xs o vs) (setAt ys o dh):=by
 unfold setAt
 rw [<-hv.length]
 exact ((h.take o).append hv).append (h.drop _)
theorem NP {xs:List Value} {o:Nat} {vs:List Value} {p:Value->Prop} (h:∀x∈xs,p x) (hv:∀x∈vs,p x):∀x∈setAt xs o vs,p x:=by
 intro x hx
 unfold setAt at hx
 simp only [List.mem_append] at hx
 rcases hx with (hx | hx) | hx
 ·exact h x (List.mem_of_mem_take hx)
 ·exact hv x hx
 ·exact h x (List.mem_of_mem_drop hx)
inductive jL (ρ:ai) (place:Nat->Option (Nat×Nat)):List (Nat×Nat×Value)->List (Nat×Value)->Prop
 | nil:jL ρ place [] []
 | cons {o s i:Nat} {v v':Value} {ps:List (Nat×Nat×Value)} {qs:List (Nat×Value)}:place i=some (o,s)->af ρ v v'->jL ρ place ps qs->jL ρ place ((o,s,v)::ps) ((i,v')::qs)
theorem uQ {ρ:ai} {place:Nat->Option (Nat×Nat)} {ps:List (Nat×Nat×Value)} {qs:List (Nat×Value)} (hp:jL ρ place ps qs):
  ∀{xs cs:List Value} {ys:Array Value},hP xs ps=some cs->aC ρ xs ys.toList->(∀x∈xs,cz x=true)->
   ∃cV,Instr.fill place ys qs=some cV/\aC ρ cs cV.toList/\(∀x∈cs,cz x=true)/\cs.length=xs.length:=by
 induction hp with
 | nil=>
  intro xs cs ys h hs h1
  simp [hP] at h
  subst h
  exact ⟨ys,by simp [Instr.fill],hs,h1,rfl⟩
 | cons hpl hv _ ih=>
  rename_i o s i v v' ps qs _
  intro xs cs ys h hs h1
  simp only [hP] at h
  split at h
  ·rename_i hc
   obtain ⟨ht,hl,ho⟩:=hc
   have nE:=hv.cells ht
   have jt:v'.cells.size=s:=by rw [<-hl,nE.length];simp [bc]
   have fO:o+v'.cells.size<=ys.size:=by have:=hs.length;simp at this;omega
   have oW:=NR (bc v') o 0 ys (by simp [bc];omega)
   simp only [Nat.add_zero] at oW
   have kK:v'.cells.zipIdx.foldl (λcs x=>cs.setIfInBounds (o+x.2) x.1) ys=(setAt ys.toList o (bc v')).toArray:=by
    apply ext'
    rw [<-oW,<-Array.foldl_toList]
    simp [bc,Array.toList_zipIdx]
   obtain ⟨cV,hf,hr,h2,hlen⟩:=ih (ys:=(setAt ys.toList o (bc v')).toArray) h (by simpa using NQ hs nE) (NP h1 (hv.qU ht))
   refine ⟨cV,?_,hr,h2,?_⟩
   ·unfold Instr.fill
    simp only [hpl]
    rw [if_neg (by simp [jt];omega)]
    rw [<-hf,<-kK]
   ·rw [hlen]
    simp [setAt]
    omega
  ·cases h
theorem n0 {P:Program} {t:TypeId} {zs:List Value} (h:zeroOf P t=some zs):
  ∃i z,P.info? t=some i/\i.zero=some z/\zs=bc z/\dI z=true/\(∀x∈zs,eE x=true/\cz x=true)/\zs.length=i.size:=by
 unfold zeroOf at h
 split at h
 ·rename_i i hi
  split at h
  ·rename_i z hz
   split at h
   ·rename_i hc
    simp at h
    subst h
    simp only [and_eq_true,all_eq_true,mY,beq_iff_eq] at hc
    exact ⟨i,z,hi,hz,rfl,hc.1.1,λx hx=>hc.1.2 x hx,hc.2⟩
   ·cases h
  ·cases h
 ·cases h
theorem aC.closed {ρ:ai}:∀{zs:List Value},(∀x∈zs,eE x=true)->aC ρ zs zs
 | [],_=>.nil
 | x::zs,h=>.cons (eE.rel (h x (by simp))) (aC.closed λy hy=>h y (by simp [hy]))
section
variable {P : Program} (w : World)
theorem mH {t:TypeId} {i:TypeInfo} {z:Value} (hi:P.info? t=some i) (hz:i.zero=some z):(zeroValue t).run P w=.ok z w:=by
 simp [zeroValue,typeInfo,hi,hz]
theorem D6:∀(fs:List Field),(∀f∈fs,cy P f.type=true)->
  (fs.mapM (m:=Sem) λf=>do pure (f.offset,<-sizeOf f.type)).run P w=.ok (fs.map λf=>(f.offset,P.cellsOf f.type)) w
 | [],_=>rfl
 | f::fs,h=>by
  have ih:=D6 fs (λg hg=>h g (by simp [hg]))
  simp only [List.mapM_cons,Sem.run_bind,gX w (h f (by simp)),Result.andThen_ok,Sem.run_pure,ih,List.map_cons]
end
end
section
section
variable {P : Program} (w : World) {ρ : ai} {g g' : Operand -> Value}
theorem sm (hg:∀x,df x=true->af ρ (g x) (g' x)) (l:Option Operand) (h:l.toArray.all df=true):lr ρ (l.map g) (l.map g'):=by
 cases l with
 | none=>trivial
 | some x=>exact hg x (by simpa using h)
theorem DB (hg:∀x,df x=true->af ρ (g x) (g' x)) (place:Nat->Option (Nat×Nat)):∀(qs:List (Nat×Operand)) (ps:List (Nat×Nat×Operand)),
  qs.mapM (m:=Option) (λ(i,x)=>(place i).map λ(o,s)=>(o,s,x))=some ps->(∀q∈qs,df q.2=true)->
  jL ρ place (ps.map λ(o,s,x)=>(o,s,g x)) (qs.map λ(i,x)=>(i,g' x))
 | [],ps,h,_=>by
  simp at h
  subst h
  exact .nil
 | (i,x)::qs,ps,h,hq=>by
  simp only [List.mapM_cons,Option.bind_eq_bind,bind_eq_some_iff] at h
  obtain ⟨p,hp,LK,hps,h⟩:=h
  simp at h
  subst h
  simp only [map_eq_some_iff] at hp
  obtain ⟨⟨o,s⟩,hpl,rfl⟩:=hp
  exact .cons hpl (hg x (hq (i,x) (by simp))) (DB hg place qs LK hps λq hm=>hq q (by simp [hm]))
theorem xn (hg:∀x,df x=true->af ρ (g x) (g' x)) (pl:Nat->Nat×Nat):∀(qs:List (Nat×Operand)),(∀q∈qs,df q.2=true)->
  jL ρ (λi=>some (pl i)) ((qs.map λ(i,x)=>((pl i).1,(pl i).2,x)).map λ(o,s,x)=>(o,s,g x)) (qs.map λ(i,x)=>(i,g' x))
 | [],_=>.nil
 | (i,x)::qs,hq=>.cons rfl (hg x (hq (i,x) (by simp))) (xn hg pl qs λq hm=>hq q (by simp [hm]))
theorem Ni {t:TypeId} {fs:Array Field} {zs:List Value} {ps:List (Nat×Nat×Value)} {qs:Array (Nat×Value)} {v:Value} (ht:P.underlying t=some (.struct fs)) (hz:zeroOf P t=some zs)
  (hk:∀f∈fs.toList,cy P f.type=true) (hp:jL ρ ((placesOf P fs)[·]?) ps qs.toList) (h:jx zs ps=some v):
  ∃v',(Instr.build t qs).run P w=.ok v' w/\af ρ v v':=by
 obtain ⟨i,z,hi,gQ,rfl,hY,bI,hlen⟩:=n0 hz
 simp only [jx,map_eq_some_iff] at h
 obtain ⟨cs,hf,rfl⟩:=h
 obtain ⟨cV,ny,hr,h1,_⟩:=uQ (ys:=z.cells) hp hf (aC.closed λx hx=>(bI x hx).1) (λx hx=>(bI x hx).2)
 refine ⟨.agg cV,?_,?_⟩
 ·have hm:=D6 (P:=P) w fs.toList hk
  have bV:(fs.mapM (m:=Sem) λf=>do pure (f.offset,<-sizeOf f.type)).run P w=.ok (fs.toList.map λf=>(f.offset,P.cellsOf f.type)).toArray w:=by
   rw [Array.mapM_eq_mapM_toList]
   simp only [Sem.run_map,hm,Result.andThen_ok]
  have hpl:(λ(x:Nat)=>((fs.toList.map λf=>(f.offset,P.cellsOf f.type)).toArray)[x]?)=((placesOf P fs)[·]?):=by
   funext x
   simp [placesOf]
  simp only [Instr.build,Sem.run_bind,mH w hi gQ,Result.andThen_ok,run_underlying ht,bV]
  rw [hpl,ny]
  simp
 ·have:=af.oq (ρ:=ρ) hr h1
  simpa using this
theorem Nh {t e:TypeId} {n:Nat} {zs:List Value} {ps:List (Nat×Nat×Value)} {qs:Array (Nat×Value)} {v:Value} (ht:P.underlying t=some (.array n e)) (hz:zeroOf P t=some zs)
  (hk:cy P e=true) (hp:jL ρ (λi=>some (i*P.cellsOf e,P.cellsOf e)) ps qs.toList) (h:jx zs ps=some v):
  ∃v',(Instr.build t qs).run P w=.ok v' w/\af ρ v v':=by
 obtain ⟨i,z,hi,gQ,rfl,hY,bI,hlen⟩:=n0 hz
 simp only [jx,map_eq_some_iff] at h
 obtain ⟨cs,hf,rfl⟩:=h
 obtain ⟨cV,ny,hr,h1,_⟩:=uQ (ys:=z.cells) hp hf (aC.closed λx hx=>(bI x hx).1) (λx hx=>(bI x hx).2)
 refine ⟨.agg cV,?_,?_⟩
 ·simp only [Instr.build,Sem.run_bind,mH w hi gQ,Result.andThen_ok,run_underlying ht,gX w hk]
  rw [ny]
  simp
 ·have:=af.oq (ρ:=ρ) hr h1
  simpa using this
theorem Ii {fn:Func} (h:fn.name= "internal/bytealg.IndexByteString"):Extern.find fn=some Extern.BytealgIndexByte.indexByte:=by
 unfold Extern.find
 rw [h]
 rfl
theorem Ie {f:FuncId} (h:uM P f=true):∃fn,P.funcs[f]?=some fn/\(fn.name== "runtime.NumGoroutine")=false/\fn.body.isNone=true/\Extern.findNext fn=none/\Extern.find fn=some Extern.BytealgIndexByte.indexByte:=by
 unfold uM at h
 split at h
 ·rename_i fn hf
  simp only [and_eq_true,beq_iff_eq] at h
  obtain ⟨⟨h1,h2⟩,h3⟩:=h
  exact ⟨fn,hf,by rw [h2];decide,h1,by simpa using h3,Ii h2⟩
 ·cases h
theorem LL {o:Oper} {po:gE} (hc:cI P o.op=some po) (aj:o.op.operands.all df=true) (hH:∀i r,ρ i=some r->r.aL=P.cellsOf r.elem)
  (hg:∀x,df x=true->af ρ (g x) (g' x)) {v:Value} (hi:cP po g=some v):∃v',(execOp g' o).run P w=.ok (.value v') w/\af ρ v v':=by
 cases ho:o.op with
 | move x=>
  rw [ho] at hc aj
  simp [cI] at hc;subst hc
  simp [Op.operands] at aj
  simp [cP] at hi;subst hi
  exact ⟨g' x,by simp [execOp,ho],hg x aj⟩
 | assign x=>
  rw [ho] at hc aj
  simp [cI] at hc;subst hc
  simp [Op.operands] at aj
  simp [cP] at hi;subst hi
  exact ⟨g' x,by simp [execOp,ho],hg x aj⟩
 | pick c a b=>
  rw [ho] at hc aj
  simp [cI] at hc;subst hc
  simp [Op.operands] at aj
  simp only [cP,dH] at hi
  split at hi
  ·rename_i t ht
   have Bc:=hg c aj.1
   rw [ht] at Bc
   simp at hi;subst hi
   refine ⟨if t then g' a else g' b,by simp [execOp,ho,Bc.mX,asBool],?_⟩
   cases t
   ·simpa using hg b aj.2.2
   ·simpa using hg a aj.2.1
  ·cases hi
 | binOp op t x y yt=>
  rw [ho] at hc aj
  simp [Op.operands] at aj
  have hx:=hg x aj.1
  have hy:=hg y aj.2
  simp only [cI] at hc
  have fin:∀v',(do eqGuard op t x y (g' x) (g' y);binOp op t (g' x) (g' y):Sem Value).run P w=.ok v' w->(execOp g' o).run P w=.ok (.value v') w:=by
   intro v' h
   simp only [execOp,ho]
   simp only [Sem.run_bind] at h⊢
   rw [h]
   rfl
  split at hc
  ·simp at hc;subst hc
   obtain ⟨h1,h2⟩:=DX P w (op:=.eql) t x y ‹_› rfl hi hx hy
   exact ⟨v,fin v h1,h2⟩
  ·simp at hc;subst hc
   obtain ⟨h1,h2⟩:=DX P w (op:=.neq) t x y ‹_› rfl hi hx hy
   exact ⟨v,fin v h1,h2⟩
  ·simp at hc;subst hc
   obtain ⟨h1,h2⟩:=DY P w (op:=.eql) t x y ‹_› rfl hi hx hy
   exact ⟨v,fin v h1,h2⟩
  ·simp at hc;subst hc
   obtain ⟨h1,h2⟩:=DY P w (op:=.neq) t x y ‹_› rfl hi hx hy
   exact ⟨v,fin v h1,h2⟩
  ·simp at hc;subst hc
   obtain ⟨h1,h2⟩:=Nf P w t x y hi hx hy
   exact ⟨v,fin v h1,h2⟩
 | unOp op t x=>
  rw [ho] at hc aj
  simp [cI] at hc;subst hc
  simp [Op.operands] at aj
  obtain ⟨h1,h2⟩:=NI P w hi (hg x aj)
  exact ⟨v,by simp [execOp,ho,h1],h2⟩
 | convert s d x=>
  rw [ho] at hc aj
  simp [Op.operands] at aj
  simp only [cI] at hc
  split at hc
  ·rename_i k0 k hs hd
   simp at hc;subst hc
   simp only [cP,iO] at hi
   split at hi
   ·rename_i k1 n hx
    have:=hg x aj
    rw [hx] at this
    simp at hi;subst hi
    refine ⟨_,?_,.int _ _⟩
    simp [execOp,ho,this.dZ,convert,run_underlying hs,run_underlying hd,Conv.intToInt]
   ·cases hi
  ·rename_i hs hd
   simp at hc;subst hc
   simp only [cP,Bz] at hi
   split at hi
   ·rename_i z hx
    have:=hg x aj
    rw [hx] at this
    simp at hi;subst hi
    refine ⟨_,?_,.string _⟩
    simp [execOp,ho,this.jD,convert,run_underlying hs,run_underlying hd]
   ·cases hi
  ·rename_i k0 hs hd
   simp at hc;subst hc
   simp only [cP,pC] at hi
   split at hi
   ·rename_i k1 n hx
    have:=hg x aj
    rw [hx] at this
    simp at hi;subst hi
    refine ⟨_,?_,.string _⟩
    simp [execOp,ho,this.dZ,convert,run_underlying hs,run_underlying hd,Conv.intToString]
   ·cases hi
  ·cases hc
 | indexAddr t x i=>
  rw [ho] at hc aj
  simp [Op.operands] at aj
  simp only [cI] at hc
  split at hc
  ·rename_i e ht
   split at hc
   ·rename_i hk
    simp at hc;subst hc
    obtain ⟨v',h1,h2⟩:=Na w ht hk hi (hg x aj.1) (hg i aj.2)
    exact ⟨v',by simp [execOp,ho,h1],h2⟩
   ·cases hc
  ·rename_i n e ht
   split at hc
   ·rename_i hk
    simp at hc;subst hc
    obtain ⟨v',h1,h2⟩:=M9 w ht hk hi (hg x aj.1) (hg i aj.2)
    exact ⟨v',by simp [execOp,ho,h1],h2⟩
   ·cases hc
  ·cases hc
 | index t x i=>
  rw [ho] at hc aj
  simp [Op.operands] at aj
  simp only [cI] at hc
  split at hc
  ·rename_i ht
   simp at hc;subst hc
   obtain ⟨h1,h2⟩:=Nr w ht hi (hg x aj.1) (hg i aj.2)
   exact ⟨v,by simp [execOp,ho,h1],h2⟩
  ·rename_i n e ht
   split at hc
   ·rename_i d hd
    split at hc
    ·rename_i hk
     simp at hc;subst hc
     simp only [and_eq_true] at hk
     obtain ⟨v',h1,h2⟩:=Nq w ht hd hk.1 hi (hg x aj.1) (hg i aj.2)
     exact ⟨v',by simp [execOp,ho,h1],h2⟩
    ·cases hc
   ·cases hc
  ·cases hc
 | fieldAddr t x f=>
  rw [ho] at hc aj
  simp [Op.operands] at aj
  simp only [cI] at hc
  split at hc
  ·rename_i fs ht
   split at hc
   ·rename_i fd hf
    split at hc
    ·rename_i hk
     simp at hc;subst hc
     simp only [and_eq_true,bne_iff_ne] at hk
     obtain ⟨v',h1,h2⟩:=No w ht hf hk.1 hk.2 hi (hg x aj)
     exact ⟨v',by simp [execOp,ho,h1],h2⟩
    ·cases hc
   ·cases hc
  ·cases hc
 | field t x f=>
  rw [ho] at hc aj
  simp [Op.operands] at aj
  simp only [cI] at hc
  split at hc
  ·rename_i fs ht
   split at hc
   ·rename_i fd hf
    split at hc
    ·rename_i d hd
     split at hc
     ·rename_i hk
      simp at hc;subst hc
      simp only [and_eq_true] at hk
      obtain ⟨v',h1,h2⟩:=Np w ht hf hd hk.1 hi (hg x aj)
      exact ⟨v',by simp [execOp,ho,h1],h2⟩
     ·cases hc
    ·cases hc
   ·cases hc
  ·cases hc
 | slice t x lo dc mx=>
  rw [ho] at hc aj
  simp only [cI] at hc
  split at hc
  ·rename_i ht
   simp at hc;subst hc
   simp only [Op.operands,Array.all_append,and_eq_true] at aj
   obtain ⟨⟨⟨h0,h1⟩,h2⟩,_⟩:=aj
   obtain ⟨k1,k2⟩:=ND w ht hi (hg x (by simpa using h0)) (sm hg lo h1) (sm hg dc h2)
   exact ⟨v,by simp [execOp,ho,k1],k2⟩
  ·rename_i e ht
   split at hc
   ·rename_i hk
    simp at hc;subst hc
    simp only [Op.operands,Array.all_append,and_eq_true] at aj
    obtain ⟨⟨⟨h0,h1⟩,h2⟩,_⟩:=aj
    obtain ⟨v',k1,k2⟩:=NF w hH ht hk hi (hg x (by simpa using h0)) (sm hg lo h1) (sm hg dc h2)
    exact ⟨v',by simp [execOp,ho,k1],k2⟩
   ·cases hc
  ·cases hc
 | nilCheck x=>
  rw [ho] at hc aj
  simp [cI] at hc;subst hc
  simp [Op.operands] at aj
  exact NB w ho hi (hg x aj)
 | makeFunc fn first captured=>
  rw [ho] at hc aj
  cases fn with
  | func f=>
   simp [cI] at hc;subst hc
   simp only [Op.operands,Array.all_append,and_eq_true] at aj
   simp [cP] at hi;subst hi
   have h1:=aC.my hg (xs:=first.toList) (by simpa using aj.1)
   have h2:=aC.my hg (xs:=captured.toList) (by simpa using aj.2)
   refine ⟨.func (.func f) (first.map g') (captured.map g'),by simp [execOp,ho,Instr.makeFunc],?_⟩
   refine .func f (by simp) (by simp) ?_ ?_
   ·have:=h1.ofList
    simpa using this
   ·have:=h2.ofList
    simpa using this
  | _=>simp [cI] at hc
 | extract x i=>
  rw [ho] at hc aj
  simp [cI] at hc;subst hc
  simp [Op.operands] at aj
  obtain ⟨v',h1,h2⟩:=Nn (P:=P) w hi (hg x aj)
  exact ⟨v',by simp [execOp,ho,h1],h2⟩
 | build t parts=>
  rw [ho] at hc aj
  simp only [cI] at hc
  simp only [Op.operands] at aj
  have hq:∀q∈parts.toList,df q.2=true:=by
   intro q hm
   rw [Array.all_eq_true'] at aj
   exact aj q.2 (by simp;exact ⟨q.1,by simpa using hm⟩)
  split at hc
  ·rename_i fs zs ht hz
   split at hc
   ·rename_i hk
    split at hc
    ·rename_i ps hps
     simp at hc;subst hc
     have hp:=DB hg ((placesOf P fs)[·]?) parts.toList ps hps hq
     have bG:∀f∈fs.toList,cy P f.type=true:=by
      rw [Array.all_eq_true'] at hk
      intro f hf
      exact hk f (by simpa using hf)
     obtain ⟨v',h1,h2⟩:=Ni w ht hz bG (qs:=parts.map λ(i,x)=>(i,g' x)) (by simpa using hp) hi
     exact ⟨v',by simp [execOp,ho,h1],h2⟩
    ·cases hc
   ·cases hc
  ·rename_i n e zs ht hz
   split at hc
   ·rename_i hk
    simp at hc;subst hc
    have hp:=xn hg (λi=>(i*P.cellsOf e,P.cellsOf e)) parts.toList hq
    obtain ⟨v',h1,h2⟩:=Nh w ht hz hk (qs:=parts.map λ(i,x)=>(i,g' x)) (by simpa using hp) hi
    exact ⟨v',by simp [execOp,ho,h1],h2⟩
   ·cases hc
  ·cases hc
 | call c=>
  rw [ho] at hc aj
  obtain ⟨callee,args,argTypes⟩:=c
  cases callee with
  | builtin b=>
   simp only [Op.operands,Call.operands,Array.empty_append] at aj
   have gJ:=aC.my hg (xs:=args.toList) (by simpa using aj)
   have fin:∀v',(∀nc,(builtin b argTypes o.type nc (args.map g')).run P w=.ok (.value v') w)->(execOp g' o).run P w=.ok (.value v') w:=by
    intro v' h
    simp [execOp,ho,resolve,invoke,h]
   cases b with
   | len=>
    simp only [cI] at hc
    split at hc
    ·rename_i x t hx mh
     obtain rfl:args=#[x]:=ext' hx
     obtain rfl:argTypes=#[t]:=ext' mh
     simp at aj
     have hr:=hg x aj
     split at hc
     ·rename_i ht
      simp at hc;subst hc
      simp only [cP,ft] at hi
      split at hi
      ·rename_i s hs
       rw [hs] at hr
       simp at hi;subst hi
       refine ⟨_,fin _ ?_,.int _ _⟩
       intro nc
       simp [builtin,Builtin.len_,run_underlying ht,hr.jD,goInt,pV]
      ·cases hi
     ·rename_i e ht
      simp at hc;subst hc
      simp only [cP,eK] at hi
      split at hi
      ·rename_i a n c hs
       rw [hs] at hr
       simp at hi;subst hi
       refine ⟨_,fin _ ?_,.int _ _⟩
       intro nc
       generalize hy:g' x=y at hr
       cases hr <;> simp [builtin,Builtin.len_,run_underlying ht,hy,goInt]
      ·cases hi
     ·rename_i n e ht
      simp at hc;subst hc
      simp [cP] at hi;subst hi
      refine ⟨_,fin _ ?_,.int _ _⟩
      intro nc
      simp [builtin,Builtin.len_,run_underlying ht,goInt]
     ·cases hc
    ·cases hc
   | min=>
    simp [cI] at hc;subst hc
    simp only [cP,gR] at hi
    split at hi
    ·rename_i k n rest hl
     rw [hl] at gJ
     generalize hy:args.toList.map g'=ys at gJ
     cases gJ with
     | cons h1 h2=>
      rename_i y0 OT
      have e:=h1.dZ
      subst e
      obtain ⟨k1,k2⟩:=xC (P:=P) w hi h2
      refine ⟨v,fin v ?_,k2⟩
      intro nc
      simp only [builtin,Sem.run_bind,Builtin.min_,Array.toList_map,hy]
      simp at k1
      rw [k1]
      rfl
    ·cases hi
   | max=>
    simp [cI] at hc;subst hc
    simp only [cP,gR] at hi
    split at hi
    ·rename_i k n rest hl
     rw [hl] at gJ
     generalize hy:args.toList.map g'=ys at gJ
     cases gJ with
     | cons h1 h2=>
      rename_i y0 OT
      have e:=h1.dZ
      subst e
      obtain ⟨k1,k2⟩:=xC (P:=P) w hi h2
      refine ⟨v,fin v ?_,k2⟩
      intro nc
      simp only [builtin,Sem.run_bind,Builtin.max_,Array.toList_map,hy]
      simp at k1
      rw [k1]
      rfl
    ·cases hi
   | _=>simp [cI] at hc
  | value y=>
   cases y with
   | func f=>
    simp only [cI] at hc
    split at hc
    ·rename_i x c hx
     split at hc
     ·rename_i hf
      simp at hc;subst hc
      obtain rfl:args=#[x,c]:=ext' hx
      simp [Op.operands,Call.operands] at aj
      simp only [cP] at hi
      split at hi
      ·rename_i f' a b I9
       split at hi
       ·rename_i np
        obtain ⟨rfl,ha,hb⟩:=np
        obtain rfl:=Array.eq_empty_of_size_eq_zero ha
        obtain rfl:=Array.eq_empty_of_size_eq_zero hb
        have h0:=hg (.func f') aj.1
        rw [I9] at h0
        generalize hy:g' (.func f')=y at h0
        cases h0 with
        | func _ s1 s2 _ _=>
         rename_i xs' jg
         obtain rfl:=Array.eq_empty_of_size_eq_zero s1.symm
         obtain rfl:=Array.eq_empty_of_size_eq_zero s2.symm
         simp only [pA] at hi
         split at hi
         ·rename_i s n hs hn
          injection hi with hi
          subst hi
          have h1:=hg x aj.2.1
          have h2:=hg c aj.2.2
          rw [hs] at h1
          rw [hn] at h2
          have e1:=h1.jD
          have e2:=h2.dZ
          refine ⟨_,?_,.int _ _⟩
          obtain ⟨fn,q1,q2,q3,q4,q5⟩:=Ie hf
          have:=run_callFunc_extern (P:=P) q1 q2 q3 q4 q5 #[.string s,.int .u8 n] w
          simp [execOp,ho,resolve,Deferred.ofValue,invoke,hy,e1,e2]
          rw [this,Lib.run_indexByteString]
          rfl
         ·cases hi
       ·cases hi
      ·cases hi
     ·cases hc
    ·cases hc
   | _=>simp [cI] at hc
  | _=>simp [cI] at hc
 | _=>rw [ho] at hc;simp [cI] at hc
end
end
section
theorem b0.mono {ρ ae:ai} (h:ρ.le ae) {c:Array Value} {sh:Nat} {xs:List Value} (hc:b0 ρ c sh xs):b0 ae c sh xs:=by
 intro j x hj
 obtain ⟨h1,y,hy,hr⟩:=hc j x hj
 exact ⟨h1,y,hy,hr.mono h⟩
theorem eN.mono {ρ ae:ai} {w w':World} {r:RI} {o:ay} (hle:ρ.le ae) (hw:w'.heap[r.aD]?=w.heap[r.aD]?) (h:eN ρ w r o):eN ae w' r o:=by
 cases o with
 | ro e xs=>
  obtain ⟨h1,c,t,fr,h2,h3,h4⟩:=h
  exact ⟨h1,c,t,fr,by rw [hw];exact h2,h3,h4.mono hle⟩
 | arr e xs=>
  obtain ⟨h1,h0,c,h2,h3,h4⟩:=h
  exact ⟨h1,h0,c,by rw [hw];exact h2,h3,h4.mono hle⟩
 | smap es=>
  obtain ⟨ak,clock,h1,h2,h3⟩:=h
  refine ⟨ak,clock,by rw [hw];exact h1,h2,?_⟩
  intro j k v hj
  obtain ⟨en,he,hk,hv⟩:=h3 j k v hj
  exact ⟨en,he,hk,hv.mono hle⟩
 | dY kd es=>
  obtain ⟨ak,clock,h1,h2,h3⟩:=h
  refine ⟨ak,clock,by rw [hw];exact h1,h2,?_⟩
  intro j k v hj
  obtain ⟨en,he,hk,hv⟩:=h3 j k v hj
  exact ⟨en,he,hk,hv.mono hle⟩
 | ct g c es=>
  obtain ⟨h0,ak,h1,h2,h3⟩:=h
  refine ⟨h0,ak,by rw [hw];exact h1,h2,?_⟩
  intro j b k v hj
  obtain ⟨hg,en,he,hk,hb,hv⟩:=h3 j b k v hj
  exact ⟨hg,en,he,hk,hb,hv.mono hle⟩
 | iter m s n l=>
  obtain ⟨h0,rm,h1,h2⟩:=h
  exact ⟨h0,rm,hle _ _ h1,by rw [hw];exact h2⟩
 | loop c ls vs=>
  obtain ⟨rec,h1,h2,h3,h4,h5,h6,h7,h8⟩:=h
  exact ⟨rec,by rw [hw];exact h1,h2,h3,h4,h5,h6,h7,λt=>(h8 t).mono hle⟩
 | dead=>trivial
def ai.add (ρ:ai) (i:Nat) (r:RI):ai:=λj=>if j=i then some r else ρ j
theorem ai.kg {ρ:ai} {i:Nat} {r:RI} (h:ρ i=none):ρ.le (ρ.add i r):=by
 intro j s hj
 unfold ai.add
 split
 ·rename_i e;subst e;rw [h] at hj;cases hj
 ·exact hj
theorem av.none {P:Program} {ρ:ai} {h:ad} {w:World} (H:av P ρ h w):ρ h.length=none:=by
 cases hr:ρ h.length with
 | none=>rfl
 | some r=>exact absurd (H.lt hr) (Nat.lt_irrefl _)
theorem pN {P:Program} {ρ:ai} {h:ad} {w:World} (H:av P ρ h w) {i:Nat} {r:RI} (hi:ρ i=some r) (hl:bC h i):r.aD<w.heap.size:=by
 obtain ⟨o,ho,hr⟩:=H.obj i r hi
 obtain ⟨o',bm,aV⟩:=hl
 rw [ho] at bm
 cases bm
 have key:∀{x:Obj},w.heap[r.aD]?=some x->r.aD<w.heap.size:=λh=>(Array.getElem?_eq_some_iff.1 h).1
 cases o with
 | ro e xs=>obtain ⟨_,c,_,fr,h2,_⟩:=hr;exact key h2
 | arr e xs=>obtain ⟨_,_,c,h2,_⟩:=hr;exact key h2
 | smap es=>obtain ⟨ak,clock,h1,_⟩:=hr;exact key h1
 | dY kd es=>obtain ⟨ak,clock,h1,_⟩:=hr;exact key h1
 | ct g c es=>obtain ⟨_,ak,h1,_⟩:=hr;exact key h1
 | iter m s n l=>obtain ⟨_,rm,_,h1⟩:=hr;exact key h1
 | loop c ls vs=>obtain ⟨rec,h1,_⟩:=hr;exact key h1
 | dead=>exact absurd rfl aV
structure dm (w:World) (b:Obj) (w':World):Prop where
 heap:w'.heap=w.heap.push b
 os:w'.os=w.os
 tape:w'.tape=w.tape
 output:w'.output=w.output
theorem dm.alloc (w:World) (b:Obj):dm w b (w.alloc b):=⟨rfl,rfl,rfl,rfl⟩
theorem dm.drew (w:World) (b:Obj):dm w b (w.drew.alloc b):=⟨rfl,rfl,rfl,rfl⟩
theorem dm.old {w w':World} {b:Obj} (n:dm w b w') {k:Nat} (h:k<w.heap.size):w'.heap[k]?=w.heap[k]?:=by
 rw [n.heap,Array.getElem?_push,if_neg (by omega)]
theorem dm.new {w w':World} {b:Obj} (n:dm w b w'):w'.heap[w.heap.size]?=some b:=by
 rw [n.heap,Array.getElem?_push,if_pos rfl]
theorem dm.size {w w':World} {b:Obj} (n:dm w b w'):w'.heap.size=w.heap.size+1:=by
 rw [n.heap];simp
theorem av.new {P:Program} {ρ:ai} {h h₀:ad} {w w':World} {b:Obj} {r:RI} {o:ay} (H:av P ρ h w) (nb:dm w b w') (hb:r.aD=w.heap.size) (he:r.aL=P.cellsOf r.elem)
  (hk:h₀.length=h.length) (hd:∀i:Nat,h₀[i]?=h[i]?∨h₀[i]?=some ay.dead)
  (ho:eN (ρ.add h.length r) w' r o):av P (ρ.add h.length r) (h₀++[o]) w'/\Tr ρ h w (ρ.add h.length r) (h₀++[o]) w':=by
 have hle:=ai.kg (r:=r) H.none
 have dd:∀i,i<h.length->aH (h₀++[o]) i->aH h i:=by
  intro i hi hm
  unfold aH at hm⊢
  rw [getElem?_append_left (by omega)] at hm
  rcases hd i with e | e <;> rw [e] at hm
  ·exact hm
  ·rcases hm with ⟨_,_,hm⟩ | ⟨_,hm⟩ | ⟨_,_,_,hm⟩ | ⟨_,_,hm⟩ | ⟨_,_,_,hm⟩ | ⟨_,_,_,_,hm⟩ <;> cases hm
 have ma:∀i,i<h.length->bC (h₀++[o]) i->bC h i:=by
  intro i hi hm
  unfold bC at hm⊢
  rw [getElem?_append_left (by omega)] at hm
  rcases hd i with e | e <;> rw [e] at hm
  ·exact hm
  ·obtain ⟨o',h1,h2⟩:=hm;cases h1;exact absurd rfl h2
 have aD:∀i s,ρ i=some s->bC (h₀++[o]) i->s.aD<w.heap.size:=λi s hi hl=>pN H hi (ma i (H.lt hi) hl)
 constructor
 ·constructor
  ·intro i s hi
   unfold ai.add at hi
   split at hi
   ·rename_i e
    subst e
    cases hi
    refine ⟨o,?_,ho⟩
    rw [<-hk]
    simp
   ·obtain ⟨o',bm,hr⟩:=H.obj i s hi
    have hlt:=H.lt hi
    rw [getElem?_append_left (by omega)]
    rcases hd i with e | e
    ·refine ⟨o',by rw [e];exact bm,?_⟩
     by_cases kM:o'=.dead
     ·subst kM;trivial
     ·exact hr.mono hle (nb.old (pN H hi ⟨o',bm,kM⟩))
    ·exact ⟨.dead,e,trivial⟩
  ·intro i j s t hi hj bT hm hl
   unfold ai.add at hi hj
   split at hi <;> split at hj
   ·omega
   ·rename_i e1 e2
    cases hi
    have:=aD j t hj hl
    omega
   ·rename_i e1 e2
    cases hj
    have:=aD i s hi hm.live
    omega
   ·exact H.inj i j s t hi hj bT (dd i (H.lt hi) hm) (ma j (H.lt hj) hl)
  ·intro i s hi
   unfold ai.add at hi
   split at hi
   ·cases hi;exact he
   ·exact H.aL i s hi
 ·exact {
   ext:=hle
   len:=by simp;omega
   cW:=λi s hi=>H.lt hi
   kinds:=dd
   fresh:=by
    intro i s hi hn
    unfold ai.add at hi
    split at hi
    ·rename_i e;cases hi;exact ⟨by omega,.inl (by omega)⟩
    ·rw [hn] at hi;cases hi
   cu:=by rw [nb.size];omega
   cq:=λk bG _=>nb.old bG
   os:=nb.os
   tape:=nb.tape
   output:=nb.output }
structure fb (w:World) (k:Nat) (b:Obj) (w':World):Prop where
 here:w'.heap[k]?=some b
 other:∀j,j≠k->w'.heap[j]?=w.heap[j]?
 size:w'.heap.size=w.heap.size
 os:w'.os=w.os
 tape:w'.tape=w.tape
 output:w'.output=w.output
theorem fb.row {w:World} {g:Nat} {c:Array Value} {e:TypeId} {fr:Nat×Nat} (hg:w.heap[g]?=some (.cells c e fr)) (c':Array Value):fb w g (.cells c' e fr) (w.setRow g c') where
 here:=by simp [World.setRow,Array.getElem?_modify,hg]
 other:=by intro j hj;simp [World.setRow,Array.getElem?_modify,Ne.symm hj]
 size:=by simp [World.setRow]
 os:=rfl
 tape:=rfl
 output:=rfl
theorem av.set {P:Program} {ρ:ai} {h:ad} {w w':World} {b:Obj} {i:Nat} {r:RI} {o:ay} (H:av P ρ h w) (hi:ρ i=some r) (hm:aH h i) (sb:fb w r.aD b w')
  (ho:eN ρ w' r o):av P ρ (h.set i o) w'/\Tr ρ h w ρ (h.set i o) w':=by
 have hlt:=H.lt hi
 have dd:∀j,aH (h.set i o) j->aH h j:=by
  intro j hj
  by_cases e:j=i
  ·subst e;exact hm
  ·unfold aH at hj⊢
   rw [getElem?_set_ne (Ne.symm e)] at hj
   exact hj
 have ma:∀j,bC (h.set i o) j->bC h j:=by
  intro j hj
  by_cases e:j=i
  ·subst e;exact hm.live
  ·unfold bC at hj⊢
   rw [getElem?_set_ne (Ne.symm e)] at hj
   exact hj
 constructor
 ·constructor
  ·intro j s hj
   by_cases e:j=i
   ·subst e
    rw [hi] at hj
    cases hj
    exact ⟨o,by rw [List.getElem?_set_self hlt],ho⟩
   ·obtain ⟨o',bm,hr⟩:=H.obj j s hj
    refine ⟨o',by rw [getElem?_set_ne (Ne.symm e)];exact bm,?_⟩
    by_cases kM:o'=.dead
    ·subst kM;trivial
    ·refine hr.mono (.refl _) (sb.other _ ?_)
     intro hb
     exact e (H.inj i j r s hi hj hb.symm hm ⟨o',bm,kM⟩).symm
  ·intro j k s t hj hk bT bV hl
   exact H.inj j k s t hj hk bT (dd j bV) (ma k hl)
  ·exact H.aL
 ·exact {
   ext:=.refl _
   len:=by simp
   cW:=λj s hj=>H.lt hj
   kinds:=λj _ hj=>dd j hj
   fresh:=λj s h1 h2=>by rw [h1] at h2;cases h2
   cu:=by rw [sb.size];exact le_refl _
   cq:=λk _ aP=>sb.other k λe=>aP i r hi e.symm hm
   os:=sb.os
   tape:=sb.tape
   output:=sb.output }
theorem av.move {P:Program} {ρ:ai} {h:ad} {w w':World} {b:Obj} {i:Nat} {r:RI} {o:ay} (H:av P ρ h w) (hi:ρ i=some r) (hm:aH h i) (sb:fb w r.aD b w')
  (ho:eN (ρ.add h.length r) w' r o):av P (ρ.add h.length r) (h.set i .dead++[o]) w'/\Tr ρ h w (ρ.add h.length r) (h.set i .dead++[o]) w':=by
 have hlt:=H.lt hi
 have hle:=ai.kg (r:=r) H.none
 have get:∀j,j<h.length->j≠i->(h.set i .dead++[o])[j]?=h[j]?:=by
  intro j hj e
  rw [getElem?_append_left (by simpa using hj),getElem?_set_ne (Ne.symm e)]
 have u9:(h.set i .dead++[o])[i]?=some .dead:=by
  rw [getElem?_append_left (by simpa using hlt),List.getElem?_set_self hlt]
 have dd:∀j,j<h.length->aH (h.set i .dead++[o]) j->aH h j/\j≠i:=by
  intro j hj bV
  have aV:j≠i:=by
   intro e
   subst e
   unfold aH at bV
   rw [u9] at bV
   rcases bV with ⟨_,_,h1⟩ | ⟨_,h1⟩ | ⟨_,_,_,h1⟩ | ⟨_,_,h1⟩ | ⟨_,_,_,h1⟩ | ⟨_,_,_,_,h1⟩ <;> cases h1
  refine ⟨?_,aV⟩
  unfold aH at bV⊢
  rw [get j hj aV] at bV
  exact bV
 have ma:∀j,j<h.length->bC (h.set i .dead++[o]) j->bC h j/\j≠i:=by
  intro j hj bV
  have aV:j≠i:=by
   intro e
   subst e
   obtain ⟨o',h1,h2⟩:=bV
   rw [u9] at h1
   cases h1
   exact h2 rfl
  refine ⟨?_,aV⟩
  unfold bC at bV⊢
  rw [get j hj aV] at bV
  exact bV
 constructor
 ·constructor
  ·intro j s hj
   unfold ai.add at hj
   split at hj
   ·rename_i e
    subst e
    cases hj
    exact ⟨o,by rw [List.getElem?_append_right (by simp)];simp,ho⟩
   ·by_cases e:j=i
    ·subst e
     exact ⟨.dead,u9,trivial⟩
    ·obtain ⟨o',bm,hr⟩:=H.obj j s hj
     refine ⟨o',by rw [get j (H.lt hj) e];exact bm,?_⟩
     by_cases kM:o'=.dead
     ·subst kM;trivial
     ·refine hr.mono hle (sb.other _ ?_)
      intro hb
      exact e (H.inj i j r s hi hj hb.symm hm ⟨o',bm,kM⟩).symm
  ·intro j k s t hj hk bT bV hl
   unfold ai.add at hj hk
   split at hj <;> split at hk
   ·omega
   ·cases hj
    obtain ⟨h1,h2⟩:=ma k (H.lt hk) hl
    exact absurd (H.inj i k r t hi hk bT hm h1).symm h2
   ·cases hk
    obtain ⟨h1,h2⟩:=dd j (H.lt hj) bV
    exact absurd (H.inj j i s r hj hi bT h1 hm.live) h2
   ·exact H.inj j k s t hj hk bT (dd j (H.lt hj) bV).1 (ma k (H.lt hk) hl).1
  ·intro j s hj
   unfold ai.add at hj
   split at hj
   ·cases hj;exact H.aL i r hi
   ·exact H.aL j s hj
 ·exact {
   ext:=hle
   len:=by simp
   cW:=λj s hj=>H.lt hj
   kinds:=λj hj bV=>(dd j hj bV).1
   fresh:=by
    intro j s hj hn
    unfold ai.add at hj
    split at hj
    ·rename_i e;cases hj;exact ⟨by omega,.inr ⟨i,r,hi,rfl,hm⟩⟩
    ·rw [hn] at hj;cases hj
   cu:=by rw [sb.size];exact le_refl _
   cq:=λk _ aP=>sb.other k λe=>aP i r hi e.symm hm
   os:=sb.os
   tape:=sb.tape
   output:=sb.output }
end
section
inductive ga where
 | load (agg:Bool) (n:Nat) (a:Operand)
 | lz (x:Operand)
 | lookup (ok:Bool) (zero:Value) (m k:Operand)
 | r9 (kd:IntKind) (ok:Bool) (zero:Value) (m k:Operand)
 | r8 (g:cg) (ok:Bool) (zero:Value) (m k:Operand)
 | entry (it:Operand)
 | obj (x:Operand)
inductive eS where
 | alloc (e:TypeId) (zs:List Value)
 | fw (e:TypeId) (n:Nat) (zs:List Value) (parts:List (Nat×Nat×Operand))
 | make (e:TypeId) (bytes:Nat) (zs:List Value) (l c:Operand)
 | fU (g:cg)
inductive fZ where
 | fl (a:eS)
 | store (n:Nat) (a v:Operand)
 | box (e:TypeId) (x:Operand)
 | alloc (e:TypeId) (zs:List Value)
 | fw (e:TypeId) (n:Nat) (zs:List Value) (parts:List (Nat×Nat×Operand))
 | make (e:TypeId) (bytes:Nat) (zs:List Value) (l c:Operand)
 | app (e:TypeId) (aL bytes:Nat) (s x:Operand)
 | mkMap
 | sd (kd:IntKind)
 | fU (g:cg)
 | wJ (g:cg) (m k v:Operand)
 | uB (g:cg) (m k:Operand)
 | xr (x:Operand)
 | next (it:Operand)
 | die
 | wK (kd:IntKind) (m k v:Operand)
 | wI (m k v:Operand)
 | copy (d s:Operand)
def aU (h:ad) (i:Nat):Option (List Value):=
 match h[i]? with
 | some (.ro _ xs)=>some xs
 | some (.arr _ xs)=>some xs
 | _=>none
def aw (agg:Bool) (n:Nat) (h:ad) (a:Value):Option Value:=
 match a with
 | .pointer (some ⟨i,o,none⟩)=>(aU h i).bind λxs=>cY agg o n xs
 | _=>none
def lB:Value->Option UInt8
 | .int .u8 n=>some (UInt8.ofNat n.toNat)
 | _=>none
def dL (h:ad) (aL:Nat) (x:Value):Option (List Value):=
 match x with
 | .slice none 0 0=>some []
 | .slice (some ⟨i,o,some _⟩) n _=>
  if n=0 then some [] else (aU h i).bind λxs=>if o+n*aL<=xs.length then some ((xs.drop o).take (n*aL)) else none
 | _=>none
def hZ (h:ad) (x:Value):Option Value:=(dL h 1 x).bind λcs=>(cs.mapM lB).map S
def dr (k:ByteArray):List (ByteArray×Value)->Option Value
 | []=>none
 | (k',v)::es=>if k=k' then some v else dr k es
def fy (k:ByteArray) (v:Value):List (ByteArray×Value)->List (ByteArray×Value)
 | []=>[(k,v)]
 | (k',v')::es=>if k=k' then (k',v)::es else (k',v')::fy k v es
def jS (k:Int):List (Int×Value)->Option Value
 | []=>none
 | (k',v)::es=>if k=k' then some v else jS k es
def iX (k:Int) (v:Value):List (Int×Value)->List (Int×Value)
 | []=>[(k,v)]
 | (k',v')::es=>if k=k' then (k',v)::es else (k',v')::iX k v es
def rV (kd:IntKind) (ok:Bool) (zero:Value) (h:ad) (m k:Value):Option Value:=
 match m,k with
 | .map (some i),.int nN k=>
  match h[i]? with
  | some (.dY fv es)=>if nN=kd/\fv=kd then some (if ok then .tuple #[(jS k es).getD zero,.bool (jS k es).isSome] else (jS k es).getD zero) else none
  | _=>none
 | _,_=>none
def nK:Value->Value->Bool
 | .int k a,.int k' b=>decide (k=k')&&decide (a=b)
 | _,_=>false
def nL:List Value->List Value->Bool
 | [],[]=>true
 | a::kA,b::bs=>nK a b&&nL kA bs
 | _,_=>false
def kI:Value->Value->Bool
 | .string a,.string b=>decide (bytes a=bytes b)
 | .agg kA,.agg bs=>nL kA.toList bs.toList
 | a,b=>nK a b
def ij (k:Value):List (Nat×Value×Value)->Option Nat
 | []=>none
 | (_,k',_)::es=>if kI k k'=true then some 0 else (ij k es).map (·+1)
def lJ (k:Value) (es:List (Nat×Value×Value)):Option Value:=(ij k es).bind λj=>(es[j]?).map λe=>e.2.2
def mI (c:Nat) (k v:Value) (es:List (Nat×Value×Value)):List (Nat×Value×Value):=
 match ij k es with
 | some j=>es.modify j λe=>(e.1,k,v)
 | none=>es++[(c,k,v)]
def lC (c:Nat) (k:Value) (es:List (Nat×Value×Value)):Nat:=match ij k es with | some _=>c | none=>c+1
def lG (k:Value) (es:List (Nat×Value×Value)):List (Nat×Value×Value):=
 match ij k es with
 | some j=>es.eraseIdx j
 | none=>es
def rU (g:cg) (ok:Bool) (zero:Value) (h:ad) (m k:Value):Option Value:=
 match m with
 | .map (some i)=>
  match h[i]? with
  | some (.ct g' _ es)=>if g'=g/\bU g k=true then some (if ok then .tuple #[(lJ k es).getD zero,.bool (lJ k es).isSome] else (lJ k es).getD zero) else none
  | _=>none
 | _=>none
def vX (g:cg) (h:ad) (m k v:Value):Option ad:=
 match m with
 | .map (some i)=>
  match h[i]? with
  | some (.ct g' c es)=>if g'=g/\bU g k=true/\dI v=true then some (h.set i (.ct g (lC c k es) (mI c k v es))) else none
  | _=>none
 | _=>none
def vT (g:cg) (h:ad) (m k:Value):Option ad:=
 match m with
 | .map (some i)=>
  match h[i]? with
  | some (.ct g' c es)=>if g'=g/\bU g k=true then some (h.set i (.ct g c (lG k es))) else none
  | _=>none
 | _=>none
def vZ (h:ad) (x:Value):Option (Value×ad):=
 match x with
 | .map (some i)=>
  match h[i]? with
  | some (.ct _ c _)=>some (.pointer (some ⟨h.length,0,none⟩),h++[.iter i c [] c])
  | _=>none
 | _=>none
def rS (h:ad) (it:Value):Option Value:=
 match it with
 | .pointer (some ⟨j,0,none⟩)=>
  match h[j]? with
  | some (.iter i _ seen last)=>
   match h[i]?,seen.getLast? with
   | some (.ct _ c es),some b=>if c=last then (es.find? λe=>e.1==b).map λe=>.tuple #[e.2.1,e.2.2] else none
   | _,_=>none
  | _=>none
 | _=>none
def pM:Value->Bool
 | .bool _ | .int .. | .string _ | .nilFunc | .nilIface=>true
 | .pointer none | .map none=>true
 | .slice none 0 0=>true
 | _=>false
def oP:cg->Value
 | .int k=>.int k 0
 | .str=>.bool true
 | .ints n k=>.agg #[.int k n]
def ie (i:Nat) (x:Value):Bool:=
 pM x||(match x with | .slice (some ⟨k,_,_⟩) _ _=>decide (k<i) | _=>false)
@[simp] theorem PH (i : Nat) (k : IntKind) (z : Int) : ie i (.int k z) = true := rfl
@[simp] theorem PG (i : Nat) (b : Bool) : ie i (.bool b) = true := rfl
@[simp] theorem PJ (i : Nat) (s) : ie i (.string s) = true := rfl
@[simp] theorem PI (i : Nat) : ie i (.slice none 0 0) = true := rfl
def iA (i:Nat):ay->Option Value
 | .arr e xs=>if xs.all (ie i) then some (.agg (.int .i64 e::xs).toArray) else none
 | .ct g c es=>if c=0/\es.isEmpty=true then some (.tuple #[oP g]) else none
 | _=>none
def v8:Value->Option Nat
 | .pointer (some ⟨i,_,none⟩)=>some i
 | .slice (some ⟨i,_,_⟩) _ _=>some i
 | .map (some i)=>some i
 | _=>none
def fE (h:ad) (x:Value):Option Value:=(v8 x).bind λi=>(h[i]?).bind (iA i)
def mj (ok:Bool) (zero:Value) (h:ad) (m k:Value):Option Value:=
 match m,k with
 | .map (some i),.string k=>
  match h[i]? with
  | some (.smap es)=>some (if ok then .tuple #[(dr k es).getD zero,.bool (dr k es).isSome] else (dr k es).getD zero)
  | _=>none
 | _,_=>none
def bM (o:ga) (g:Operand->Value) (h:ad):Option Value:=
 match o with
 | .load agg n a=>aw agg n h (g a)
 | .lz x=>hZ h (g x)
 | .lookup ok zero m k=>mj ok zero h (g m) (g k)
 | .r9 kd ok zero m k=>rV kd ok zero h (g m) (g k)
 | .r8 kd ok zero m k=>rU kd ok zero h (g m) (g k)
 | .entry it=>rS h (g it)
 | .obj x=>fE h (g x)
def jz (n:Nat) (h:ad) (a v:Value):Option ad:=
 match a with
 | .pointer (some ⟨i,o,none⟩)=>
  match h[i]? with
  | some (.arr e xs)=>if dI v/\(bc v).length=n/\o+n<=xs.length then some (h.set i (.arr e (setAt xs o (bc v)))) else none
  | _=>none
 | _=>none
def nP (h:ad):Value:=.pointer (some ⟨h.length,0,none⟩)
def sl (e:TypeId) (i o n:Nat):Value:=.slice (some ⟨i,o,some e⟩) n n
def kc (e:TypeId) (h:ad) (x:Value):Option (Value×ad):=if dI x then some (nP h,h++[.arr e (bc x)]) else none
def dS (zs:List Value) (n:Nat):List Value:=(List.replicate n zs).flatten
def bR (e:TypeId) (n:Nat) (zs:List Value) (h:ad) (ps:List (Nat×Nat×Value)):Option (Value×ad):=
 (hP (dS zs n) ps).map λcs=>(sl e h.length 0 n,h++[.arr e cs])
def pB (e:TypeId) (bytes:Nat) (zs:List Value) (h:ad) (l c:Value):Option (Value×ad):=
 match l,c with
 | .int _ l,.int _ c=>if 0<=l/\l<=c/\(bytes:Int)*c<=281474976710656/\c<=9223372036854775807 then some (sl e h.length 0 l.toNat,h++[.arr e (dS zs l.toNat)]) else none
 | _,_=>none
def gl:Value->Option Nat
 | .slice none 0 0=>some 0
 | .slice (some _) n _=>some n
 | _=>none
def cO (e:TypeId) (aL bytes:Nat) (h:ad) (s x:Value):Option (Value×ad):=
 match dL h aL x,gl x with
 | some news,some m=>
  match s with
  | .slice none 0 0=>
   if m=0 then some (s,h) else
   if m*bytes<=140737488355328/\m<=maxLen then some (sl e h.length 0 m,h++[.arr e news]) else none
  | .slice (some ⟨i,0,some e'⟩) n _=>
   match h[i]? with
   | some (.arr AD xs)=>
    if e'=e/\AD=e/\xs.length=n*aL/\(n+m)*bytes<=140737488355328/\n+m<=maxLen then
     if m=0 then some (s,h) else some (sl e h.length 0 (n+m),h.set i .dead++[.arr e (xs++news)])
    else none
   | _=>none
  | _=>none
 | _,_=>none
def nH (h:ad) (m k v:Value):Option ad:=
 match m,k with
 | .map (some i),.string k=>
  match h[i]? with
  | some (.smap es)=>some (h.set i (.smap (fy k v es)))
  | _=>none
 | _,_=>none
def vY (kd:IntKind) (h:ad) (m k v:Value):Option ad:=
 match m,k with
 | .map (some i),.int nN k=>
  match h[i]? with
  | some (.dY fv es)=>if nN=kd/\fv=kd then some (h.set i (.dY kd (iX k v es))) else none
  | _=>none
 | _,_=>none
def dJ (n:Nat) (h:ad) (a v:Value):Option (Value×ad):=(jz n h a v).map λh'=>(undef,h')
def nQ (h:ad) (m k v:Value):Option (Value×ad):=(nH h m k v).map λh'=>(undef,h')
def jw (e:TypeId) (zs:List Value) (h:ad):Option (Value×ad):=some (nP h,h++[.arr e zs])
def By (h:ad):Option (Value×ad):=some (.map (some h.length),h++[.smap []])
def vS (h:ad) (d s:Value):Option (Value×ad):=
 match gl d,gl s,dL h 1 s with
 | some n,some m,some cs=>
  if Nat.min m n=0 then some (.int .i64 0,h) else
  match d with
  | .slice (some ⟨i,o,some _⟩) _ _=>
   match h[i]? with
   | some (.arr e xs)=>if o+Nat.min m n<=xs.length then some (.int .i64 (Nat.min m n:Nat),h.set i (.arr e (setAt xs o (cs.take (Nat.min m n))))) else none
   | _=>none
  | _=>none
 | _,_,_=>none
def bW (o:fZ) (g:Operand->Value) (h:ad):Option (Value×ad):=
 match o with
 | .fl a=>match a with
  | .alloc e zs=>some (nP h,h++[.arr e zs])
  | .fw e n zs ps=>bR e n zs h (ps.map λ(o,s,x)=>(o,s,g x))
  | .make e bytes zs l c=>pB e bytes zs h (g l) (g c)
  | .fU kd=>some (.map (some h.length),h++[.ct kd 0 []])
 | .store n a v=>(jz n h (g a) (g v)).map λh'=>(undef,h')
 | .box e x=>kc e h (g x)
 | .alloc e zs=>some (nP h,h++[.arr e zs])
 | .fw e n zs ps=>bR e n zs h (ps.map λ(o,s,x)=>(o,s,g x))
 | .make e bytes zs l c=>pB e bytes zs h (g l) (g c)
 | .app e aL bytes s x=>cO e aL bytes h (g s) (g x)
 | .mkMap=>some (.map (some h.length),h++[.smap []])
 | .wI m k v=>(nH h (g m) (g k) (g v)).map λh'=>(undef,h')
 | .sd kd=>some (.map (some h.length),h++[.dY kd []])
 | .die=>none
 | .next _=>none
 | .fU kd=>some (.map (some h.length),h++[.ct kd 0 []])
 | .wJ kd m k v=>(vX kd h (g m) (g k) (g v)).map λh'=>(undef,h')
 | .uB kd m k=>(vT kd h (g m) (g k)).map λh'=>(.tuple #[],h')
 | .xr x=>vZ h (g x)
 | .wK kd m k v=>(vY kd h (g m) (g k) (g v)).map λh'=>(undef,h')
 | .copy d s=>vS h (g d) (g s)
def eS.s5:eS->fZ
 | .alloc e zs=>.alloc e zs
 | .fw e n zs ps=>.fw e n zs ps
 | .make e b zs l c=>.make e b zs l c
 | .fU g=>.fU g
def fZ.sZ:fZ->Option eS
 | .alloc e zs=>some (.alloc e zs)
 | .fw e n zs ps=>some (.fw e n zs ps)
 | .make e b zs l c=>some (.make e b zs l c)
 | .fU g=>some (.fU g)
 | _=>none
def ei (a:eS) (g:Operand->Value):Option ((Nat->Value)×ay):=
 match a with
 | .alloc e zs=>some (λi=>.pointer (some ⟨i,0,none⟩),.arr e zs)
 | .fw e n zs ps=>(hP (dS zs n) (ps.map λ(o,s,x)=>(o,s,g x))).map λcs=>(λi=>sl e i 0 n,.arr e cs)
 | .make e bytes zs l c=>
  match g l,g c with
  | .int _ l,.int _ c=>if 0<=l/\l<=c/\(bytes:Int)*c<=281474976710656/\c<=9223372036854775807 then some (λi=>sl e i 0 l.toNat,.arr e (dS zs l.toNat)) else none
  | _,_=>none
 | .fU g=>some (λi=>.map (some i),.ct g 0 [])
theorem BC (a:eS) (g:Operand->Value) (h:ad):bW (.fl a) g h=(ei a g).map λp=>(p.1 h.length,h++[p.2]):=by
 cases a with
 | alloc e zs=>rfl
 | fw e n zs ps=>simp only [bW,ei,bR,Option.map_map];rfl
 | make e b zs l c=>
  simp only [bW,ei,pB]
  split
  ·split <;> rfl
  ·rfl
 | fU g=>rfl
theorem Kt (a:eS) (g:Operand->Value) (h:ad):bW a.s5 g h=bW (.fl a) g h:=by cases a <;> rfl
theorem Ef {e:fZ} {a:eS} (h:e.sZ=some a):a.s5=e:=by
 cases e <;> simp [fZ.sZ] at h <;> subst h <;> rfl
theorem tY {a:eS} {g:Operand->Value} {V:Nat->Value} {o:ay} (h:ei a g=some (V,o)):∀i,v8 (V i)=some i:=by
 cases a with
 | fU g=>simp [ei] at h;obtain ⟨rfl,_⟩:=h;intro i;rfl
 | alloc e zs=>simp [ei] at h;obtain ⟨rfl,_⟩:=h;intro i;rfl
 | fw e n zs ps=>simp only [ei,map_eq_some_iff,Prod.mk.injEq] at h;obtain ⟨_,_,rfl,_⟩:=h;intro i;rfl
 | make e b zs l c=>
  simp only [ei] at h
  split at h
  ·split at h
   ·simp at h;obtain ⟨rfl,_⟩:=h;intro i;rfl
   ·cases h
  ·cases h
def nZ (P:Program) (t:TypeId):Option Value:=
 match P.info? t with
 | some i=>match i.zero with
  | some z=>if mY z then some z else none
  | none=>none
 | none=>none
def isString (P:Program) (t:TypeId):Bool:=match P.underlying t with | some .string=>true | _=>false
def mr (P:Program) (t:TypeId):Option IntKind:=match P.underlying t with | some (.int k)=>some k | _=>none
def mN:Value->Bool
 | .agg cs=>cs.toList.all mY
 | v=>eE v
def tg (P:Program) (t:TypeId):Option Value:=
 match P.info? t with
 | some i=>match i.zero with
  | some z=>if mN z then some z else none
  | none=>none
 | none=>none
def hU (P:Program) (t:TypeId):Option cg:=
 match P.underlying t with
 | some (.map kt et)=>
  match P.underlying et with
  | some (.int _)=>none
  | _=>
   match P.underlying kt with
   | some .string=>some .str
   | some (.int k)=>some (.int k)
   | some (.array n e)=>
    match P.underlying e with
    | some (.int k)=>if (P.cellsOf e==1&&P.cellsOf kt==n&& !(P.types.size==0))=true then some (.ints n k) else none
    | _=>none
   | _=>none
 | _=>none
def jO (P:Program):Op->Option ga
 | .load t a=>
  match P.underlying t with
  | some d=>if cy P t&&(fG d||P.cellsOf t==1) then some (.load (fG d) (P.cellsOf t) a) else none
  | none=>none
 | .entry it=>some (.entry it)
 | .convert s d x=>
  match P.underlying s,P.underlying d with
  | some (.slice e),some .string=>match P.underlying e with | some (.int .u8)=>some (.lz x) | _=>none
  | _,_=>none
 | .lookup t m k ok=>
  match hU P t with
  | some g=>match P.underlying t with
   | some (.map _ et)=>(tg P et).map λz=>.r8 g ok z m k
   | _=>none
  | none=>
  match P.underlying t with
  | some (.map kt et)=>if isString P kt then (nZ P et).map λz=>.lookup ok z m k else (mr P kt).bind λkd=>(nZ P et).map λz=>.r9 kd ok z m k
  | _=>none
 | _=>none
def cN (P:Program):Op->Option fZ
 | .store t a v=>if cy P t then some (.store (P.cellsOf t) a v) else none
 | .box e x=>some (.box e x)
 | .alloc e=>(zeroOf P e).map λzs=>.alloc e zs
 | .buildSlice t n ps=>
  match P.underlying t with
  | some (.slice e)=>
   match zeroOf P e with
   | some zs=>if n*P.cellsOf e<=16777216/\P.cellsOf e≠0 then some (.fw e n zs (ps.toList.map λ(i,x)=>(i*P.cellsOf e,P.cellsOf e,x))) else none
   | none=>none
  | _=>none
 | .makeSlice t l c=>
  match P.underlying t with
  | some (.slice e)=>
   match zeroOf P e with
   | some zs=>some (.make e (P.bytesOf e) zs l c)
   | none=>none
  | _=>none
 | .call { callee:=.builtin .append,args,argTypes }=>
  match args.toList,argTypes.toList with
  | [s,x],[t,t']=>
   if t=t' then
    match P.underlying t with
    | some (.slice e)=>
     match zeroOf P e with
     | some _=>some (.app e (P.cellsOf e) (P.bytesOf e) s x)
     | none=>none
    | _=>none
   else none
  | _,_=>none
 | .makeMap t none=>
  match hU P t with
  | some g=>some (.fU g)
  | none=>
  match P.underlying t with
  | some (.map kt _)=>some (match mr P kt with | some kd=>.sd kd | none=>.mkMap)
  | _=>some .mkMap
 | .mapUpdate t m k v | .insert t m k v=>
  match hU P t with
  | some g=>some (.wJ g m k v)
  | none=>
  match P.underlying t with
  | some (.map kt _)=>if isString P kt then some (.wI m k v) else (mr P kt).map λkd=>.wK kd m k v
  | _=>none
 | .call { callee:=.builtin .delete,args,argTypes }=>
  match args.toList,argTypes[0]? with
  | [m,k],some t=>(hU P t).map λg=>.uB g m k
  | _,_=>none
 | .call { callee:=.builtin .copy,args,argTypes }=>
  match args.toList,argTypes.toList with
  | [d,s],[t,_]=>
   match P.underlying t with
   | some (.slice e)=>if (P.info? e).map (·.size)=some 1 then some (.copy d s) else none
   | _=>none
  | _,_=>none
 | .range t x=>(hU P t).map λ_=>.xr x
 | .next it false=>some (.next it)
 | .panic _ | .makeInterface .. =>some .die
 | _=>none
end
section
theorem Eb {ρ:ai} {i o n:Nat} {e:TypeId} {y:Value} (h:af ρ (.slice (some ⟨i,o,some e⟩) n n) y):
  ∃r o' c',ρ i=some r/\r.elem=e/\y=.slice (some ⟨r.aD,o',none⟩) n c'/\(o'=r.sh+o∨(n=0/\0<o/\c'=0))/\n<=c'/\c'<=maxLen/\o'+c'*r.aL<=r.size:=by
 cases h with
 | slice hr a b c d=>exact ⟨_,_,_,hr,rfl,rfl,a,b,c,d⟩
theorem af.down {ρ ae:ai} (hle:ρ.le ae) {x y0:Value} (h0:af ρ x y0):∀{y:Value},af ae x y->af ρ x y:=by
 have same:∀{i:Nat} {r r':RI},ρ i=some r->ae i=some r'->r'=r:=λh h'=>by rw [hle _ _ h] at h';cases h';rfl
 induction h0 with
 | bool b=>intro y h;cases h;exact .bool b
 | int k n=>intro y h;cases h;exact .int k n
 | string s=>intro y h;cases h;exact .string s
 | nilPtr=>intro y h;cases h;exact .nilPtr
 | gV=>intro y h;cases h;exact .gV
 | jA=>intro y h;cases h;exact .jA
 | nilFunc=>intro y h;cases h;exact .nilFunc
 | nilIface=>intro y h;cases h;exact .nilIface
 | ptr hi=>intro y h;cases h with | ptr dc=>cases same hi dc;exact .ptr hi
 | slice hi a b c d=>
  intro y h
  obtain ⟨r',o',c',h1,h2,rfl,h3,h4,h5,h6⟩:=Eb h
  cases same hi h1
  exact .slice hi h3 h4 h5 h6
 | void a=>intro y h;cases h;exact .void _
 | map hi=>intro y h;cases h with | map dc=>cases same hi dc;exact .map hi
 | yield hi=>intro y h;cases h with | yield dc=>cases same hi dc;exact .yield hi
 | func f s1 s2 _ _ wi wj=>
  intro y h
  cases h with
  | func _ t1 t2 q1 q2=>
   refine .func f t1 t2 (λk x x' e e'=>?_) (λk x x' e e'=>?_)
   ·obtain ⟨z,hz⟩:∃z,_=some z:=⟨_,getElem?_eq_getElem (by rw [<-s1];exact (Array.getElem?_eq_some_iff.1 e).1)⟩
    exact wi k x z e hz (q1 k x x' e e')
   ·obtain ⟨z,hz⟩:∃z,_=some z:=⟨_,getElem?_eq_getElem (by rw [<-s2];exact (Array.getElem?_eq_some_iff.1 e).1)⟩
    exact wj k x z e hz (q2 k x x' e e')
 | agg s1 hc _ ih=>
  intro y h
  cases h with
  | agg t1 _ q1=>
   refine .agg t1 hc (λk x x' e e'=>?_)
   obtain ⟨z,hz⟩:∃z,_=some z:=⟨_,getElem?_eq_getElem (by rw [<-s1];exact (Array.getElem?_eq_some_iff.1 e).1)⟩
   exact ih k x z e hz (q1 k x x' e e')
 | any v=>intro y _;exact .any y
 | tuple s1 _ ih=>
  intro y h
  cases h with
  | tuple t1 q1=>
   refine .tuple t1 (λk x x' e e'=>?_)
   obtain ⟨z,hz⟩:∃z,_=some z:=⟨_,getElem?_eq_getElem (by rw [<-s1];exact (Array.getElem?_eq_some_iff.1 e).1)⟩
   exact ih k x z e hz (q1 k x x' e e')
theorem b0.down {ρ ae:ai} (hle:ρ.le ae) {c c':Array Value} {sh D8:Nat} {xs:List Value} (h0:b0 ρ c sh xs) (h:b0 ae c' D8 xs):b0 ρ c' D8 xs:=by
 intro j x hj
 obtain ⟨_,y0,_,r0⟩:=h0 j x hj
 obtain ⟨c1,y,hy,r⟩:=h j x hj
 exact ⟨c1,y,hy,r0.down hle r⟩
theorem eN.down {ρ ae:ai} (hle:ρ.le ae) {w w':World} {r:RI} {o:ay} (h0:eN ρ w r o) (h:eN ae w' r o):eN ρ w' r o:=by
 cases o with
 | ro e xs=>
  obtain ⟨_,_,_,_,_,_,b4⟩:=h0
  obtain ⟨a1,c,t,fr,a2,a3,a4⟩:=h
  exact ⟨a1,c,t,fr,a2,a3,b4.down hle a4⟩
 | arr e xs=>
  obtain ⟨_,_,_,_,_,b4⟩:=h0
  obtain ⟨a1,a0,c,a2,a3,a4⟩:=h
  exact ⟨a1,a0,c,a2,a3,b4.down hle a4⟩
 | smap es=>
  obtain ⟨_,_,_,_,b3⟩:=h0
  obtain ⟨ak,clock,a1,a2,a3⟩:=h
  refine ⟨ak,clock,a1,a2,λj k v hj=>?_⟩
  obtain ⟨_,_,_,r0⟩:=b3 j k v hj
  obtain ⟨en,e1,e2,e3⟩:=a3 j k v hj
  exact ⟨en,e1,e2,r0.down hle e3⟩
 | dY kd es=>
  obtain ⟨_,_,_,_,b3⟩:=h0
  obtain ⟨ak,clock,a1,a2,a3⟩:=h
  refine ⟨ak,clock,a1,a2,λj k v hj=>?_⟩
  obtain ⟨_,_,_,r0⟩:=b3 j k v hj
  obtain ⟨en,e1,e2,e3⟩:=a3 j k v hj
  exact ⟨en,e1,e2,r0.down hle e3⟩
 | ct g c es=>
  obtain ⟨_,_,_,_,b3⟩:=h0
  obtain ⟨a0,ak,a1,a2,a3⟩:=h
  refine ⟨a0,ak,a1,a2,λj b k v hj=>?_⟩
  obtain ⟨_,_,_,_,_,r0⟩:=b3 j b k v hj
  obtain ⟨e0,en,e1,e2,jP,e3⟩:=a3 j b k v hj
  exact ⟨e0,en,e1,e2,jP,r0.down hle e3⟩
 | iter m s n l=>
  obtain ⟨_,M0,b1,_⟩:=h0
  obtain ⟨a0,rm,a1,a2⟩:=h
  have:=hle _ _ b1
  rw [a1] at this
  cases this
  exact ⟨a0,M0,b1,a2⟩
 | loop c ls vs=>
  obtain ⟨_,_,_,_,_,_,_,_,b8⟩:=h0
  obtain ⟨rec,a1,a2,a3,a4,a5,a6,a7,a8⟩:=h
  exact ⟨rec,a1,a2,a3,a4,a5,a6,a7,λt=>(b8 t).down hle (a8 t)⟩
 | dead=>trivial
theorem pM.rel {ρ ae:ai} {v v':Value} (h:pM v=true) (hv:af ρ v v'):af ae v v':=by
 unfold pM at h
 split at h
 ·cases hv;exact .bool _
 ·cases hv;exact .int _ _
 ·cases hv;exact .string _
 ·cases hv;exact .nilFunc
 ·cases hv;exact .nilIface
 ·cases hv;exact .nilPtr
 ·cases hv;exact .jA
 ·cases hv;exact .gV
 ·cases h
theorem av.rh {P:Program} {ρ:ai} {h:ad} {w:World} (H:av P ρ h w) (os:ad):av P ρ (h++os) w where
 obj i r hi:=by
  obtain ⟨o,ho,hr⟩:=H.obj i r hi
  exact ⟨o,by rw [getElem?_append_left (H.lt hi)];exact ho,hr⟩
 inj i j r s hi hj hb hm hl:=by
  refine H.inj i j r s hi hj hb ?_ ?_
  ·unfold aH at hm⊢;rw [getElem?_append_left (H.lt hi)] at hm;exact hm
  ·unfold bC at hl⊢;rw [getElem?_append_left (H.lt hj)] at hl;exact hl
 aL:=H.aL
theorem Tr.rh {P:Program} {ρ:ai} {h:ad} {w:World} (H:av P ρ h w) (os:ad):Tr ρ h w ρ (h++os) w where
 ext:=.refl _
 len:=by simp
 cW:=λ_ _ hi=>H.lt hi
 kinds:=λi hi hm=>by unfold aH at hm⊢;rw [getElem?_append_left hi] at hm;exact hm
 fresh:=λi r h1 h2=>by rw [h1] at h2;cases h2
 cu:=le_refl _
 cq:=λ_ _ _=>rfl
 os:=rfl
 tape:=rfl
 output:=rfl
theorem Kv {lo:ga} {g:Operand->Value} {h:ad} {v:Value} (os:ad) (hl:bM lo g h=some v):bM lo g (h++os)=some v:=by
 have get:∀{i:Nat} {o:ay},h[i]?=some o->(h++os)[i]?=some o:=by
  intro i o hi
  rw [getElem?_append_left (bu hi).1];exact hi
 have cells:∀{i:Nat} {xs:List Value},aU h i=some xs->aU (h++os) i=some xs:=by
  intro i xs hc
  unfold aU at hc⊢
  split at hc
  ·rename_i e ys hq;rw [get hq];exact hc
  ·rename_i e ys hq;rw [get hq];exact hc
  ·cases hc
 cases lo with
 | load agg n a=>
  simp only [bM,aw] at hl⊢
  split at hl
  ·rename_i i o _
   cases hc:aU h i with
   | none=>rw [hc] at hl;cases hl
   | some xs=>rw [hc] at hl;rw [cells hc];exact hl
  ·cases hl
 | lz x=>
  have sc:∀{cs:List Value},dL h 1 (g x)=some cs->dL (h++os) 1 (g x)=some cs:=by
   intro cs hc
   unfold dL at hc⊢
   split at hc
   ·exact hc
   ·rename_i i o e n c hx
    split at hc
    ·rename_i h0;rw [if_pos h0];exact hc
    ·rename_i h0
     rw [if_neg h0]
     cases jo:aU h i with
     | none=>rw [jo] at hc;cases hc
     | some xs=>rw [jo] at hc;rw [cells jo];exact hc
   ·cases hc
  simp only [bM,hZ] at hl⊢
  cases hc:dL h 1 (g x) with
  | none=>rw [hc] at hl;cases hl
  | some cs=>rw [hc] at hl;rw [sc hc];exact hl
 | lookup ok z m k=>
  simp only [bM,mj] at hl⊢
  split at hl
  ·rename_i i key hm hk
   split at hl
   ·rename_i es he;rw [get he];exact hl
   ·cases hl
  ·cases hl
 | r9 kd ok z m k=>
  simp only [bM,rV] at hl⊢
  split at hl
  ·rename_i i nN key hm hk
   split at hl
   ·rename_i fv es he;rw [get he];exact hl
   ·cases hl
  ·cases hl
 | r8 gk ok z m k=>
  simp only [bM,rU] at hl⊢
  split at hl
  ·rename_i i hm
   split at hl
   ·rename_i g' c es he;rw [get he];exact hl
   ·cases hl
  ·cases hl
 | entry it=>
  simp only [bM,rS] at hl⊢
  split at hl
  ·rename_i j hj
   split at hl
   ·rename_i i si seen last hit
    rw [get hit]
    simp only
    split at hl
    ·rename_i gg c es b dV hb
     rw [get dV,hb]
     exact hl
    ·cases hl
   ·cases hl
  ·cases hl
 | obj x=>
  simp only [bM,fE] at hl⊢
  cases hx:v8 (g x) with
  | none=>rw [hx] at hl;cases hl
  | some i=>
   rw [hx] at hl
   simp only [Option.bind_some] at hl⊢
   cases ho:h[i]? with
   | none=>rw [ho] at hl;cases hl
   | some o=>rw [ho] at hl;rw [get ho];exact hl
end
section
section
variable {P : Program} {w : World} {ρ : ai} {h : ad}
theorem av.cells (H:av P ρ h w) {i:Nat} {r:RI} {xs:List Value} (hi:ρ i=some r) (hx:aU h i=some xs):
  ∃c t fr,w.heap[r.aD]?=some (.cells c t fr)/\b0 ρ c r.sh xs:=by
 obtain ⟨o,ho,hr⟩:=H.obj i r hi
 unfold aU at hx
 rw [ho] at hx
 cases o with
 | ro e ys=>
  simp at hx;subst hx
  obtain ⟨h1,c,t,fr,h2,h3,h4⟩:=hr
  exact ⟨c,t,fr,h2,h4⟩
 | arr e ys=>
  simp at hx;subst hx
  obtain ⟨h1,h0,c,h2,h3,h4⟩:=hr
  subst h1
  exact ⟨c,_,(0,0),h2,by rw [h0];exact h4⟩
 | smap es=>simp at hx
 | dY kd es=>simp at hx
 | ct g c es=>simp at hx
 | iter m s n l=>simp at hx
 | loop c ls vs=>simp at hx
 | dead=>simp at hx
theorem b0.xY {c:Array Value} {sh o n:Nat} {xs:List Value} (hc:b0 ρ c sh xs) (hl:o+n<=xs.length):
  ∃ys:List Value,aC ρ ((xs.drop o).take n) ys/\ys.length=n/\(∀x∈(xs.drop o).take n,cz x=true)/\∀j v,ys[j]?=some v->c[sh+o+j]?=some v:=by
 have key:∀j,j<n->∃x y,((xs.drop o).take n)[j]?=some x/\c[sh+o+j]?=some y/\af ρ x y/\cz x=true:=by
  intro j hj
  have hx:xs[o+j]?=some (xs[o+j]'(by omega)):=List.getElem?_eq_getElem _
  obtain ⟨h1,y,hy,hr⟩:=hc (o+j) _ hx
  refine ⟨_,y,?_,by rw [<-hy];congr 1;omega,hr,h1⟩
  rw [List.getElem?_take,if_pos hj,List.getElem?_drop]
  exact hx
 have hlen:((xs.drop o).take n).length=n:=by simp;omega
 refine ⟨(List.range n).map λj=>c.getD (sh+o+j) Go.undef,?_,by simp,?_,?_⟩
 ·refine aC.wQ (by simp;omega) ?_
  intro k x y hx hy
  have hk:k<n:=by have:=(bu hx).1;omega
  obtain ⟨x',y',h1,h2,h3,_⟩:=key k hk
  rw [h1] at hx;cases hx
  simp [hk] at hy
  subst hy
  simpa [Array.getD,Array.getElem?_eq_some_iff.1 h2 |>.1,(Array.getElem?_eq_some_iff.1 h2).2] using h3
 ·intro x hx
  obtain ⟨k,hk⟩:=List.getElem?_of_mem hx
  have bG:k<n:=by have:=(bu hk).1;omega
  obtain ⟨x',y',h1,h2,h3,h4⟩:=key k bG
  rw [h1] at hk;cases hk
  exact h4
 ·intro j v hv
  by_cases hj:j<n
  ·obtain ⟨x',y',h1,h2,h3,_⟩:=key j hj
   simp [hj] at hv
   rw [h2,<-hv]
   simp [Array.getElem?_eq_some_iff.1 h2 |>.1,(Array.getElem?_eq_some_iff.1 h2).2]
  ·simp [hj] at hv
theorem qT {g o:Nat} {c:Array Value} {t:TypeId} {fr:Nat×Nat} (hg:w.heap[g]?=some (.cells c t fr)):w.cell? ⟨g,o,none⟩=c[o]?:=by
 simp [World.cell?,hg]
theorem NJ {g o n:Nat} {c:Array Value} {t:TypeId} {fr:Nat×Nat} {ys:List Value} (hg:w.heap[g]?=some (.cells c t fr)) (hl:ys.length=n) (hy:∀j v,ys[j]?=some v->c[o+j]?=some v):
  (loadCells ⟨g,o,none⟩ n).run P w=.ok ys.toArray w:=by
 subst hl
 exact run_loadCells_list w _ ys λj v hj=>by rw [Addr.add_lit,qT hg];exact hy j v hj
theorem DZ (H:av P ρ h w) {t:TypeId} {d:TypeDesc} {a a' v:Value} (ht:P.underlying t=some d) (hk:cy P t=true) (hi:aw (fG d) (P.cellsOf t) h a=some v) (ha:af ρ a a'):
  ∃v',(Instr.loadAt t a').run P w=.ok v' w/\af ρ v v':=by
 unfold aw at hi
 split at hi
 ·rename_i i o
  obtain ⟨r,hr,rfl⟩:=ha.pT
  simp only [bind_eq_some_iff] at hi
  obtain ⟨xs,hx,hp⟩:=hi
  obtain ⟨c,_,fr,hb,hc⟩:=H.cells hr hx
  unfold cY at hp
  cases hd:fG d
  ·rw [hd] at hp
   simp at hp
   obtain ⟨h1,y,hy,hv⟩:=hc o v hp
   refine ⟨y,?_,hv⟩
   have:w.cell? ⟨r.aD,r.sh+o,none⟩=some y:=by rw [qT hb,hy]
   simp [Instr.loadAt,Instr.sureAddr,loadVar,xB w ht,hd,this]
  ·rw [hd] at hp
   simp at hp
   obtain ⟨hl,rfl⟩:=hp
   obtain ⟨ys,h1,h2,h3,h4⟩:=hc.xY hl
   refine ⟨.agg ys.toArray,?_,.oq h1 h3⟩
   simp [Instr.loadAt,Instr.sureAddr,loadVar,xB w ht,hd,gX w hk,NJ (P:=P) hb h2 h4]
 ·cases hi
theorem sS (H:av P ρ h w) {aL:Nat} {x x':Value} {cs:List Value} (hs:dL h aL x=some cs) (hx:af ρ x x'):
  (x'=.slice none 0 0/\cs=[])∨(∃b o n c',x'=.slice (some ⟨b,o,none⟩) n c'/\gl x=some n/\cs.length=n*aL/\(∀v∈cs,cz v=true)/\
   ∃ys,aC ρ cs ys/\∀j v,ys[j]?=some v->w.cell? ⟨b,o+j,none⟩=some v):=by
 unfold dL at hs
 split at hs
 ·simp at hs;subst hs
  cases hx
  exact .inl ⟨rfl,rfl⟩
 ·rename_i i o e n c
  cases hx with
  | slice hr ho hn hc hb=>
   rename_i o' c' r
   split at hs
   ·rename_i h0
    simp at hs;subst hs;subst h0
    exact .inr ⟨_,_,_,_,rfl,rfl,by simp,by simp,[],.nil,by simp⟩
   ·rename_i h0
    simp only [bind_eq_some_iff] at hs
    obtain ⟨xs,hx,hl⟩:=hs
    split at hl
    ·rename_i hle
     simp at hl;subst hl
     obtain ⟨c,_,fr,iD,hc⟩:=H.cells hr hx
     obtain ⟨ys,h1,h2,h3,h4⟩:=hc.xY hle
     have bm:o'=r.sh+o:=by
      rcases ho with ho | ⟨q1,q2,q3⟩
      ·exact ho
      ·omega
     subst bm
     refine .inr ⟨_,_,_,_,rfl,rfl,by simp;omega,h3,ys,h1,?_⟩
     intro j v hj
     rw [qT iD]
     exact h4 j v hj
    ·cases hl
 ·cases hs
theorem B6:∀{cs:List Value} {l:List UInt8},cs.mapM lB=some l->∃ns:List Int,cs=ns.map (Value.int .u8)/\l=ns.map λn=>UInt8.ofNat n.toNat
 | [],l,h=>by simp at h;subst h;exact ⟨[],rfl,rfl⟩
 | c::cs,l,h=>by
  simp only [List.mapM_cons,Option.bind_eq_bind,bind_eq_some_iff] at h
  obtain ⟨b,hb,bs,IS,h⟩:=h
  simp at h;subst h
  obtain ⟨ns,rfl,rfl⟩:=B6 IS
  unfold lB at hb
  split at hb
  ·rename_i n
   simp at hb;subst hb
   exact ⟨n::ns,rfl,rfl⟩
  ·cases hb
theorem aC.ints {ns:List Int} {k:IntKind} {ys:List Value} (h:aC ρ (ns.map (Value.int k)) ys):ys=ns.map (Value.int k):=by
 induction ns generalizing ys with
 | nil=>cases h;rfl
 | cons n ns ih=>
  cases h with
  | cons a b=>rw [a.dZ,ih b];rfl
theorem LM (ns:List Int):∀(s:ByteArray),ns.foldl (λr n=>r.push (UInt8.ofNat n.toNat)) s=⟨(bytes s++ns.map λn=>UInt8.ofNat n.toNat).toArray⟩:=by
 induction ns with
 | nil=>intro s;simp [pJ]
 | cons n ns ih=>
  intro s
  rw [List.foldl_cons,ih]
  simp [bytes]
theorem Nd (H:av P ρ h w) {x x' v:Value} (hi:hZ h x=some v) (hx:af ρ x x'):(Conv.bytesToString x').run P w=.ok v w/\af ρ v v:=by
 unfold hZ at hi
 simp only [bind_eq_some_iff,map_eq_some_iff] at hi
 obtain ⟨cs,hs,l,hl,rfl⟩:=hi
 refine ⟨?_,af.S _ _⟩
 obtain ⟨ns,rfl,rfl⟩:=B6 hl
 rcases sS H hs hx with ⟨rfl,h0⟩ | ⟨b,o,n,c',rfl,_,hlen,_,ys,hy,nu⟩
 ·have:ns=[]:=by simpa using h0
  subst this
  simp [Conv.bytesToString,S]
  rfl
 ·have e:=hy.ints
  subst e
  simp at hlen
  have o9:(loadCells ⟨b,o,none⟩ n).run P w=.ok (ns.map (Value.int .u8)).toArray w:=by
   have:=run_loadCells_list (P:=P) w ⟨b,o,none⟩ (ns.map (Value.int .u8)) (λj v hj=>by rw [Addr.add_lit];exact nu j v hj)
   simpa [hlen] using this
  rw [run_bytesToString w _ n c' ns o9,LM]
  rfl
end
end
section
theorem BH {a b:Value} (h:nK a b=true):a=b:=by
 unfold nK at h
 split at h
 ·simp only [and_eq_true,decide_eq_true_eq] at h;rw [h.1,h.2]
 ·cases h
theorem BI:∀{a b:List Value},nL a b=true->a=b
 | [],[],_=>rfl
 | a::kA,b::bs,h=>by
  simp only [nL,and_eq_true] at h
  rw [BH h.1,BI h.2]
 | [],_::_,h=>by cases h
 | _::_,[],h=>by cases h
theorem BJ {k:IntKind}:∀{a:List Value},(∀v∈a,fu k v=true)->nL a a=true
 | [],_=>rfl
 | a::kA,h=>by
  simp only [nL,and_eq_true]
  refine ⟨?_,BJ λv hv=>h v (by simp [hv])⟩
  have:=h a (by simp)
  unfold fu at this
  split at this
  ·simp [nK]
  ·cases this
theorem A0 {a b:Value} (h:kI a b=true):a=b:=by
 unfold kI at h
 split at h
 ·rename_i s t
  simp at h
  have:=pJ s
  rw [h,pJ] at this
  rw [this]
 ·rw [ext' (BI h)]
 ·exact BH h
theorem Iy {g:cg} {a:Value} (h:bU g a=true):kI a a=true:=by
 unfold bU at h
 split at h
 ·unfold fu at h
  split at h
  ·simp [kI,nK]
  ·cases h
 ·simp [kI]
 ·simp only [and_eq_true,all_eq_true] at h
  exact BJ λv hv=>(h.2 v hv).1
 ·cases h
theorem Ix {g:cg} {a b:Value} (h:bU g a=true):kI a b=true↔a=b:=⟨A0,λe=>e ▸ Iy h⟩
theorem sA {g:cg} {k:Value} (hk:bU g k=true):∀es:List (Nat×Value×Value),(ij k es=none/\∀e∈es,e.2.1≠k)∨∃j e,ij k es=some j/\es[j]?=some e/\e.2.1=k
 | []=>.inl ⟨rfl,by simp⟩
 | (b,k',v)::es=>by
  simp only [ij]
  by_cases h:kI k k'=true
  ·rw [if_pos h]
   exact .inr ⟨0,(b,k',v),rfl,rfl,(A0 h).symm⟩
  ·rw [if_neg h]
   rcases sA hk es with ⟨h1,h2⟩ | ⟨j,e,h1,h2,h3⟩
   ·refine .inl ⟨by rw [h1];rfl,?_⟩
    intro e he
    rcases List.mem_cons.1 he with rfl | he
    ·intro e'
     exact h ((Ix hk).2 e'.symm)
    ·exact h2 e he
   ·exact .inr ⟨j+1,e,by rw [h1];rfl,by simpa using h2,h3⟩
structure ql (P:Program) (kt:TypeId) (g:cg):Prop where
 check:∀(w:World) (em:Bool) (v:Value),bU g v=true->(Instr.checkKey em 10000 kt v).run P w=.ok () w
 find:∀(w:World) (x:Value),bU g x=true->∀es:List MapEntry,(∀e∈es,bU g e.key=true)->
  ((Instr.findKey kt x es).run P w=.ok none w/\∀e∈es,e.key≠x)∨∃j e,(Instr.findKey kt x es).run P w=.ok (some (j,e.val)) w/\es[j]?=some e/\e.key=x
 stays:∀(w:World) (v:Value),bU g v=true->(Instr.keyThatStays v v).run P w=.ok v w
theorem DH {P:Program} {kt:TypeId} {g:cg} {d:TypeDesc} (hd:P.underlying kt=some d) (hg:∀v,bU g v=true->MapKept.IsKey d v):ql P kt g where
 check w em v hv:=MapKept.run_checkKey hd (hg v hv) em 9999
 find w x hx es dV:=by
  rcases MapKept.findNow_spec (hg x hx) es 0 (λe he=>hg _ (dV e he)) with ⟨h1,h2⟩ | ⟨j,e,h1,h2,h3⟩
  ·exact .inl ⟨MapKept.run_findKey hd h1,h2⟩
  ·exact .inr ⟨j,e,by simpa using MapKept.run_findKey hd h1,h2,h3⟩
 stays w v hv:=MapKept.run_keyThatStays (hg v hv)
section
variable {P : Program}
theorem BK {k:IntKind} {e:TypeId} {D:Nat} (he:P.underlying e=some (.int k)) (hc:P.cellsOf e=1) (cs:List Value) (h:∀v∈cs,(fu k v&&wu k v)=true):
  ∀m,m<=cs.length->∃ls,((List.range m).mapM λi=>P.keyLits (D+1) e ((cs.drop (i*P.cellsOf e)).take (P.cellsOf e)))=some ls
 | 0,_=>⟨[],rfl⟩
 | m+1,hm=>by
  obtain ⟨ls,rG⟩:=BK he hc cs h m (by omega)
  have pe:m<cs.length:=by omega
  have hv:=h cs[m] (List.getElem_mem pe)
  rw [and_eq_true] at hv
  have h1:(cs.drop (m*P.cellsOf e)).take (P.cellsOf e)=[cs[m]]:=by
   rw [hc,Nat.mul_one]
   apply List.ext_getElem?
   intro i
   rw [List.getElem?_take]
   cases i with
   | zero=>simp [pe]
   | succ i=>simp
  generalize cs[m]=v at hv h1
  obtain ⟨k',n,rfl⟩:∃k' n,v=.int k' n:=by
   cases v <;> first | exact ⟨_,_,rfl⟩ | simp [fu] at hv
  have hk:k'=k:=by simpa [fu] using hv.1
  subst hk
  have hr:k'.min<=n/\n<=k'.max:=by simpa [wu] using hv.2
  have hw:(Lit.int k' n).wf=true:=by simp [Lit.wf,hr]
  refine ⟨ls++[[.int k' n]],?_⟩
  rw [List.range_succ,List.mapM_append,rG]
  simp [h1,Program.keyLits,he,hw]
theorem Kz {kt e:TypeId} {n:Nat} {k:IntKind} (hu:P.underlying kt=some (.array n e)) (he:P.underlying e=some (.int k)) (nt:P.cellsOf e=1) (vi:P.cellsOf kt=n) (fO:P.types.size≠0):ql P kt (.ints n k):=by
 have A:WideMaps.ArrKey P kt e n:=⟨hu,by simp [Program.plainKey,he],nt,vi⟩
 have key:∀v,bU (.ints n k) v=true->∃l,keyOf P kt v=some l:=by
  intro v hv
  cases v <;> simp [bU] at hv
  rename_i cs
  obtain ⟨h1,h2⟩:=hv
  have Jj:=A.keyType ⟨P.types.size-1,by omega⟩
  obtain ⟨D,hD⟩:∃D,P.types.size=D+1:=⟨P.types.size-1,by omega⟩
  obtain ⟨ls,rG⟩:=BK (D:=D) he nt cs.toList (λv hv=>by obtain ⟨i,hi,e⟩:=List.mem_iff_getElem.1 hv;have:=h2 i (by simpa using hi);rw [<-e];simpa using this) n (by simp [h1])
  refine ⟨.string (keyBytes ls.flatten),?_⟩
  unfold keyOf
  rw [hu]
  have hf:(Value.agg cs).formed P kt=true:=by simp [Value.formed,hu,vi,h1]
  simp only [Jj,hf,Bool.and_self,if_true]
  unfold Program.keyLits
  rw [hu]
  have hl:(Value.agg cs).cells.toList.length=P.cellsOf kt:=by simp [Value.cells,vi,h1]
  simp only [hl,if_true,hD]
  have:(Value.agg cs).cells.toList=cs.toList:=rfl
  rw [this,rG]
  rfl
 have K:=A.law
 exact {
  check:=λw em v hv=>let ⟨l,hl⟩:=key v hv;K.check w em hl
  find:=λw x hx es dV=>let ⟨l,hl⟩:=key x hx;K.find w hl es λe he=>key _ (dV e he)
  stays:=λw v hv=>let ⟨l,hl⟩:=key v hv;K.stays w hl }
theorem rj {t:TypeId} {g:cg} (h:hU P t=some g):∃kt et,P.underlying t=some (.map kt et)/\ql P kt g:=by
 unfold hU at h
 split at h
 ·rename_i kt et ht
  refine ⟨kt,et,ht,?_⟩
  split at h
  ·cases h
  ·split at h
   ·rename_i hk
    simp at h;subst h
    exact DH hk λv hv=>by cases v <;> simp [bU] at hv;trivial
   ·rename_i k hk
    simp at h;subst h
    exact DH hk λv hv=>by cases v <;> simp [bU,fu] at hv;exact hv
   ·rename_i n e hk
    split at h
    ·rename_i k he
     split at h
     ·rename_i hc
      simp at h;subst h
      simp at hc
      exact Kz hk he hc.1.1 hc.1.2 (by rw [Ne,Array.size_eq_zero_iff];exact hc.2)
     ·cases h
    ·cases h
   ·cases h
 ·cases h
end
section
variable {P : Program} {w : World} {ρ : ai} {h : ad}
structure iw (ρ:ai) (g:cg) (es:List (Nat×Value×Value)) (ak:Array MapEntry):Prop where
 size:ak.size=es.length
 nodup:(es.map λe=>e.2.1).Nodup
 get:∀(j b:Nat) (k v:Value),es[j]?=some (b,k,v)->bU g k=true/\∃en,ak[j]?=some en/\en.key=k/\en.born=b/\af ρ v en.val
theorem av.oK (H:av P ρ h w) {i:Nat} {r:RI} {g:cg} {c:Nat} {es:List (Nat×Value×Value)} (hi:ρ i=some r) (he:h[i]?=some (.ct g c es)):
  ∃ak,w.heap[r.aD]?=some (.map ak c)/\iw ρ g es ak:=by
 obtain ⟨o,ho,hr⟩:=H.obj i r hi
 rw [he] at ho
 cases ho
 obtain ⟨h0,ak,h1,h2,h3⟩:=hr
 exact ⟨ak,h1,h2,h0,h3⟩
theorem iw.inv {g:cg} {es:List (Nat×Value×Value)} {ak:Array MapEntry} (E:iw ρ g es ak) {j:Nat} {en:MapEntry} (hj:ak[j]?=some en):∃v,es[j]?=some (en.born,en.key,v)/\bU g en.key=true/\af ρ v en.val:=by
 have hlt:j<es.length:=by rw [<-E.size];exact (Array.getElem?_eq_some_iff.1 hj).1
 obtain ⟨b,k,v⟩:Nat×Value×Value:=es[j]
 have dV:=List.getElem?_eq_getElem hlt
 generalize he:es[j]=x at dV
 obtain ⟨b,k,v⟩:=x
 obtain ⟨g1,AI,g2,g3,g4,g5⟩:=E.get j b k v dV
 rw [hj] at g2
 cases g2
 subst g3;subst g4
 exact ⟨v,dV,g1,g5⟩
theorem xz {g:cg} {kt:TypeId} {es:List (Nat×Value×Value)} {ak:Array MapEntry} (L:ql P kt g) (E:iw ρ g es ak) {k:Value} (hk:bU g k=true):
  ((ij k es=none/\(∀e∈es,e.2.1≠k))/\(Instr.findKey kt k ak.toList).run P w=.ok none w)∨
  ∃j b v en,ij k es=some j/\es[j]?=some (b,k,v)/\ak[j]?=some en/\en.key=k/\en.born=b/\af ρ v en.val/\(Instr.findKey kt k ak.toList).run P w=.ok (some (j,en.val)) w:=by
 have dt:∀e∈ak.toList,bU g e.key=true:=by
  intro e he
  obtain ⟨j,hj,e'⟩:=List.mem_iff_getElem.1 he
  have:ak[j]?=some e:=by
   rw [<-getElem?_toList,List.getElem?_eq_getElem hj,e']
  exact (E.inv this).choose_spec.2.1
 rcases L.find w k hk ak.toList dt with ⟨h1,h2⟩ | ⟨j,en,h1,h2,h3⟩
 ·rcases sA hk es with ⟨p1,p2⟩ | ⟨j,e,p1,p2,p3⟩
  ·exact .inl ⟨⟨p1,p2⟩,h1⟩
  ·exfalso
   obtain ⟨b,k',v⟩:=e
   obtain ⟨_,en,q1,q2,_⟩:=E.get j b k' v p2
   have hm:en∈ak.toList:=by
    rw [<-getElem?_toList] at q1
    exact mem_of_getElem? q1
   exact h2 en hm (q2.trans p3)
 ·have A7:ak[j]?=some en:=by rw [<-getElem?_toList];exact h2
  obtain ⟨v,q1,q2,q3⟩:=E.inv A7
  rcases sA hk es with ⟨p1,p2⟩ | ⟨j',e,p1,p2,p3⟩
  ·exact absurd h3 (p2 _ (mem_of_getElem? q1))
  ·have hj:j'=j:=by
    have hn:=List.pairwise_iff_getElem.1 E.nodup
    have l1:j<es.length:=(bu q1).1
    have l2:j'<es.length:=(bu p2).1
    have k1:(es.map λe=>e.2.1)[j]'(by simpa using l1)=k:=by
     have:=(bu q1).2
     simp [this,h3]
    have k2:(es.map λe=>e.2.1)[j']'(by simpa using l2)=k:=by
     have:=(bu p2).2
     simp [this,p3]
    rcases Nat.lt_trichotomy j j' with hlt | heq | hlt
    ·exact absurd (k1.trans k2.symm) (hn j j' _ _ hlt)
    ·exact heq.symm
    ·exact absurd (k2.trans k1.symm) (hn j' j _ _ hlt)
   subst hj
   exact .inr ⟨_,_,v,en,p1,by rw [q1,h3],A7,h3,rfl,q3,h1⟩
theorem mN.rel {z:Value} (h:mN z=true):af ρ z z:=by
 unfold mN at h
 split at h
 ·rename_i cs
  rw [all_eq_true] at h
  have cl:∀x∈cs.toList,eE x=true/\cz x=true:=λx hx=>by have:=h x hx;simpa [mY] using this
  refine .agg rfl (λx hx=>(cl x hx).2) (λk x x' hx bL=>?_)
  rw [hx] at bL
  cases bL
  exact eE.rel (cl x (by rw [<-getElem?_toList] at hx;exact mem_of_getElem? hx)).1
 ·exact eE.rel h
theorem Nl (H:av P ρ h w) {it BQ v:Value} (hi:rS h it=some v) (hv:af ρ it BQ):∃v',(Instr.entry BQ).run P w=.ok v' w/\af ρ v v':=by
 unfold rS at hi
 split at hi
 ·rename_i j
  split at hi
  ·rename_i i sP seen last hit
   split at hi
   ·rename_i g c es b dV hb
    split at hi
    ·rename_i bI
     subst bI
     cases hv with
     | ptr hr=>
      rename_i r
      obtain ⟨o,ho,hrel⟩:=H.obj j r hr
      rw [hit] at ho
      cases ho
      obtain ⟨JX,rm,JP,iD⟩:=hrel
      obtain ⟨ak,hm,E⟩:=H.oK JP dV
      rw [JX]
      rw [map_eq_some_iff] at hi
      obtain ⟨e,he,rfl⟩:=hi
      have I6:∃en,ak.find? (λx=>x.born==b)=some en/\en.key=e.2.1/\bU g e.2.1=true/\af ρ e.2.2 en.val:=by
       rw [<-Array.find?_toList]
       have key:∀(l1:List (Nat×Value×Value)) (l2:List MapEntry),l2.length=l1.length->(∀(j b:Nat) (k v:Value),l1[j]?=some (b,k,v)->bU g k=true/\∃en,l2[j]?=some en/\en.key=k/\en.born=b/\af ρ v en.val)->
         l1.find? (λx=>x.1==b)=some e->∃en,l2.find? (λx=>x.born==b)=some en/\en.key=e.2.1/\bU g e.2.1=true/\af ρ e.2.2 en.val:=by
        intro l1
        induction l1 with
        | nil=>intro l2 _ _ h;simp at h
        | cons x l1 ih=>
         intro l2 hl dt hf
         obtain ⟨bx,kx,vx⟩:=x
         cases l2 with
         | nil=>simp at hl
         | cons y l2=>
          obtain ⟨g1,en,g2,g3,g4,g5⟩:=dt 0 bx kx vx rfl
          simp at g2
          subst g2
          rw [List.find?_cons] at hf⊢
          by_cases nr:(bx==b)=true
          ·simp only [nr] at hf
           cases hf
           rw [g4]
           simp only [nr]
           exact ⟨y,rfl,g3,g1,g5⟩
          ·have nr:(bx==b)=false:=by simpa using nr
           simp only [nr] at hf
           rw [g4]
           simp only [nr]
           exact ih l2 (by simpa using hl) (λj b k v hj=>by simpa using dt (j+1) b k v (by simpa using hj)) hf
       exact key es ak.toList (by simp [E.size]) (λj b k v hj=>by simpa using E.get j b k v hj) he
      obtain ⟨en,f1,f2,f3,f4⟩:=I6
      have aA:(getObj r.aD).run P w=.ok (.mapIter (some rm.aD) sP seen.toArray c) w:=by simp [getObj,Sem.run,iD]
      have I8:(getObj rm.aD).run P w=.ok (.map ak c) w:=by simp [getObj,Sem.run,hm]
      have lU:seen.toArray.back?=some b:=by simpa using hb
      refine ⟨.tuple #[en.key,en.val],?_,?_⟩
      ·unfold Instr.entry
       simp [aA,I8,hb,f1]
      ·rw [f2]
       have Ji:af ρ e.2.1 e.2.1:=by
        have ints:∀{kd:IntKind} {v:Value},fu kd v=true->af ρ v v/\cz v=true:=by
         intro kd v hv
         cases v <;> simp [fu] at hv
         exact ⟨.int _ _,rfl⟩
        cases rD:e.2.1 with
        | int kd n=>exact .int _ _
        | string s=>exact .string _
        | agg cs=>
         rw [rD] at f3
         cases g with
         | ints n kd=>
          simp only [bU,and_eq_true,all_eq_true] at f3
          refine .agg rfl (λx hx=>(ints (f3.2 x hx).1).2) (λk x x' hx bL=>?_)
          rw [hx] at bL
          cases bL
          exact (ints (f3.2 x (by rw [<-getElem?_toList] at hx;exact mem_of_getElem? hx)).1).1
         | int _=>simp [bU,fu] at f3
         | str=>simp [bU] at f3
        | _=>rw [rD] at f3;cases g <;> simp [bU,fu] at f3
       exact af.jF (.cons Ji (.cons f4 .nil))
    ·cases hi
   ·cases hi
  ·cases hi
 ·cases hi
theorem OU {t:TypeId} {z:Value} (hz:tg P t=some z):(∀w,(zeroValue t).run P w=.ok z w)/\mN z=true:=by
 unfold tg at hz
 split at hz
 ·rename_i i hi
  split at hz
  ·rename_i z' vN
   split at hz
   ·rename_i hc
    simp at hz;subst hz
    exact ⟨λw=>mH w hi vN,hc⟩
   ·cases hz
  ·cases hz
 ·cases hz
theorem af.key {g:cg} {k k':Value} (hk:bU g k=true) (h:af ρ k k'):k'=k:=by
 have ints:∀{kd:IntKind} {v v':Value},fu kd v=true->af ρ v v'->v'=v:=by
  intro kd v v' hv hr
  cases hr <;> first | rfl | simp [fu] at hv
 cases h with
 | int=>rfl
 | string=>rfl
 | agg hs _ dt=>
  rename_i xs xs' _
  cases g with
  | ints n kd=>
   simp only [bU,and_eq_true,all_eq_true] at hk
   congr 1
   apply Array.ext
   ·exact hs.symm
   ·intro i h1 h2
    exact ints (hk.2 xs[i] (by simp)).1 (dt i _ _ (getElem?_eq_getElem h2) (getElem?_eq_getElem h1))
  | int _=>simp [bU,fu] at hk
  | str=>simp [bU] at hk
 | _=>cases g <;> simp [bU,fu] at hk
theorem Nu (H:av P ρ h w) {t kt et:TypeId} {g:cg} {ok:Bool} {z m m' k k' v:Value} (hg:hU P t=some g) (ht:P.underlying t=some (.map kt et)) (hz:tg P et=some z)
  (hi:rU g ok z h m k=some v) (hm:af ρ m m') (gL:af ρ k k'):∃v',(Instr.lookup t m' k' ok).run P w=.ok v' w/\af ρ v v':=by
 obtain ⟨PB,O6,Bu,L⟩:=rj hg
 rw [ht] at Bu
 cases Bu
 unfold rU at hi
 split at hi
 ·rename_i i
  cases hm with
  | map hr=>
   rename_i r
   split at hi
   ·rename_i g' c es he
    split at hi
    ·rename_i fN
     obtain ⟨rfl,hk⟩:=fN
     rw [gL.key hk]
     have DW:∀{ak:Array MapEntry} {clock:Nat},w.heap[r.aD]?=some (.map ak clock)->(getObj r.aD).run P w=.ok (.map ak clock) w:=by
      intro ak clock hb
      simp [getObj,Sem.run,hb]
     obtain ⟨ak,hb,E⟩:=H.oK hr he
     obtain ⟨jv,hz2⟩:=OU hz
     rcases xz (w:=w) L E hk with ⟨⟨e1,_⟩,e2⟩ | ⟨j,b,u,en,e1,e2,e3,e4,e5,e6,e7⟩
     ·have:lJ k es=none:=by simp [lJ,e1]
      rw [this] at hi
      simp at hi
      have cn:(Instr.lookup t (.map (some r.aD)) k ok).run P w=.ok (if ok then .tuple #[z,.bool false] else z) w:=by
       simp [Instr.lookup,run_underlying ht,DW hb,L.check w _ k hk,e2,jv]
      refine ⟨_,cn,?_⟩
      subst hi
      cases ok
      ·exact mN.rel hz2
      ·exact af.jF (.cons (mN.rel hz2) (.cons (.bool _) .nil))
     ·have:lJ k es=some u:=by simp [lJ,e1,e2]
      rw [this] at hi
      simp at hi
      have cn:(Instr.lookup t (.map (some r.aD)) k ok).run P w=.ok (if ok then .tuple #[en.val,.bool true] else en.val) w:=by
       simp [Instr.lookup,run_underlying ht,DW hb,L.check w _ k hk,e7]
      refine ⟨_,cn,?_⟩
      subst hi
      cases ok
      ·exact e6
      ·exact af.jF (.cons e6 (.cons (.bool _) .nil))
    ·cases hi
   ·cases hi
 ·cases hi
end
end
section
inductive fJ (ρ:ai):List (ByteArray×Value)->List MapEntry->Prop
 | nil:fJ ρ [] []
 | cons {k:ByteArray} {v:Value} {en:MapEntry} {es:List (ByteArray×Value)} {ak:List MapEntry}:en.key=.string k->af ρ v en.val->fJ ρ es ak->fJ ρ ((k,v)::es) (en::ak)
theorem fJ.of {ρ:ai}:∀{es:List (ByteArray×Value)} {ak:List MapEntry},ak.length=es.length->
  (∀(j:Nat) (k:ByteArray) (v:Value),es[j]?=some (k,v)->∃en,ak[j]?=some en/\en.key=.string k/\af ρ v en.val)->fJ ρ es ak
 | [],[],_,_=>.nil
 | (k,v)::es,en::ak,hl,h=>by
  obtain ⟨AI,h1,h2,h3⟩:=h 0 k v rfl
  simp at h1;subst h1
  exact .cons h2 h3 (fJ.of (by simpa using hl) λj k' v' hj=>by simpa using h (j+1) k' v' (by simpa using hj))
theorem fJ.to {ρ:ai} {es:List (ByteArray×Value)} {ak:List MapEntry} (h:fJ ρ es ak):
  ak.length=es.length/\∀(j:Nat) (k:ByteArray) (v:Value),es[j]?=some (k,v)->∃en,ak[j]?=some en/\en.key=.string k/\af ρ v en.val:=by
 induction h with
 | nil=>exact ⟨rfl,λj k v hj=>by simp at hj⟩
 | cons h1 h2 _ ih=>
  refine ⟨by simp [ih.1],?_⟩
  intro j k v hj
  cases j with
  | zero=>simp at hj;obtain ⟨rfl,rfl⟩:=hj;exact ⟨_,rfl,h1,h2⟩
  | succ j=>simp at hj;simpa using ih.2 j k v hj
theorem Ij {ρ:ai} {es:List (ByteArray×Value)} {ak:List MapEntry} (h:fJ ρ es ak) (k:ByteArray):∀i:Nat,
  (dr k es=none/\Instr.findNow .string (.string k) ak i=some none)∨
  (∃v v' j,dr k es=some v/\Instr.findNow .string (.string k) ak i=some (some (i+j,v'))/\af ρ v v'/\(∃en,ak[j]?=some en/\en.key=.string k)):=by
 induction h with
 | nil=>intro i;exact .inl ⟨rfl,rfl⟩
 | cons h1 h2 _ ih=>
  rename_i k0 v0 en es ak _
  intro i
  by_cases hk:k=k0
  ·subst hk
   refine .inr ⟨v0,en.val,0,by simp [dr],?_,h2,en,rfl,h1⟩
   have hb:(k==k)=true:=(MapKept.bytes_beq k k).2 rfl
   simp [Instr.findNow,h1,Instr.sameNow,hb]
  ·have hb:(k==k0)=false:=by
    rw [Bool.eq_false_iff]
    exact λe=>hk ((MapKept.bytes_beq k k0).1 e)
   rcases ih (i+1) with ⟨e1,e2⟩ | ⟨v,v',j,e1,e2,e3,e4⟩
   ·refine .inl ⟨by simp [dr,hk,e1],?_⟩
    simp [Instr.findNow,h1,Instr.sameNow,hb,e2]
   ·refine .inr ⟨v,v',j+1,by simp [dr,hk,e1],?_,e3,?_⟩
    ·simp [Instr.findNow,h1,Instr.sameNow,hb,e2];omega
    ·simpa using e4
inductive fK (kd:IntKind) (ρ:ai):List (Int×Value)->List MapEntry->Prop
 | nil:fK kd ρ [] []
 | cons {k:Int} {v:Value} {en:MapEntry} {es:List (Int×Value)} {ak:List MapEntry}:en.key=.int kd k->af ρ v en.val->fK kd ρ es ak->fK kd ρ ((k,v)::es) (en::ak)
theorem fK.of {kd:IntKind} {ρ:ai}:∀{es:List (Int×Value)} {ak:List MapEntry},ak.length=es.length->
  (∀(j:Nat) (k:Int) (v:Value),es[j]?=some (k,v)->∃en,ak[j]?=some en/\en.key=.int kd k/\af ρ v en.val)->fK kd ρ es ak
 | [],[],_,_=>.nil
 | (k,v)::es,en::ak,hl,h=>by
  obtain ⟨AI,h1,h2,h3⟩:=h 0 k v rfl
  simp at h1;subst h1
  exact .cons h2 h3 (fK.of (by simpa using hl) λj k' v' hj=>by simpa using h (j+1) k' v' (by simpa using hj))
theorem fK.to {kd:IntKind} {ρ:ai} {es:List (Int×Value)} {ak:List MapEntry} (h:fK kd ρ es ak):
  ak.length=es.length/\∀(j:Nat) (k:Int) (v:Value),es[j]?=some (k,v)->∃en,ak[j]?=some en/\en.key=.int kd k/\af ρ v en.val:=by
 induction h with
 | nil=>exact ⟨rfl,λj k v hj=>by simp at hj⟩
 | cons h1 h2 _ ih=>
  refine ⟨by simp [ih.1],?_⟩
  intro j k v hj
  cases j with
  | zero=>simp at hj;obtain ⟨rfl,rfl⟩:=hj;exact ⟨_,rfl,h1,h2⟩
  | succ j=>simp at hj;simpa using ih.2 j k v hj
theorem Ik {kd:IntKind} {ρ:ai} {es:List (Int×Value)} {ak:List MapEntry} (h:fK kd ρ es ak) (k:Int):∀i:Nat,
  (jS k es=none/\Instr.findNow (.int kd) (.int kd k) ak i=some none)∨
  (∃v v' j,jS k es=some v/\Instr.findNow (.int kd) (.int kd k) ak i=some (some (i+j,v'))/\af ρ v v'/\(∃en,ak[j]?=some en/\en.key=.int kd k)):=by
 induction h with
 | nil=>intro i;exact .inl ⟨rfl,rfl⟩
 | cons h1 h2 _ ih=>
  rename_i k0 v0 en es ak _
  intro i
  by_cases hk:k=k0
  ·subst hk
   refine .inr ⟨v0,en.val,0,by simp [jS],?_,h2,en,rfl,h1⟩
   have hb:(k==k)=true:=beq_self_eq_true k
   simp [Instr.findNow,h1,Instr.sameNow]
  ·have hb:(k==k0)=false:=by
    exact beq_false_of_ne hk
   rcases ih (i+1) with ⟨e1,e2⟩ | ⟨v,v',j,e1,e2,e3,e4⟩
   ·refine .inl ⟨by simp [jS,hk,e1],?_⟩
    simp [Instr.findNow,h1,Instr.sameNow,hb,e2]
   ·refine .inr ⟨v,v',j+1,by simp [jS,hk,e1],?_,e3,?_⟩
    ·simp [Instr.findNow,h1,Instr.sameNow,hb,e2];omega
    ·simpa using e4
section
variable {P : Program} {w : World} {ρ : ai} {h : ad}
theorem BP {t:TypeId} (h:isString P t=true):P.underlying t=some .string:=by
 unfold isString at h
 split at h
 ·assumption
 ·cases h
theorem run_checkKey (b:Bool) {kt:TypeId} (hk:P.underlying kt=some .string) (k:ByteArray):(Instr.checkKey b 10000 kt (.string k)).run P w=.ok () w:=by
 rw [show (10000:Nat)=9999+1 from rfl,Instr.checkKey]
 simp [run_underlying hk]
theorem run_findKey {kt:TypeId} (hk:P.underlying kt=some .string) (k:ByteArray) (ak:List MapEntry) {r:Option (Nat×Value)} (hr:Instr.findNow .string (.string k) ak 0=some r):
  (Instr.findKey kt (.string k) ak).run P w=.ok r w:=by
 simp [Instr.findKey,run_underlying hk,hr]
theorem sI (b:Bool) {kt:TypeId} {kd:IntKind} (hk:P.underlying kt=some (.int kd)) (k:Int):(Instr.checkKey b 10000 kt (.int kd k)).run P w=.ok () w:=by
 rw [show (10000:Nat)=9999+1 from rfl,Instr.checkKey]
 simp [run_underlying hk]
theorem sJ {kt:TypeId} {kd:IntKind} (hk:P.underlying kt=some (.int kd)) (k:Int) (ak:List MapEntry) {r:Option (Nat×Value)} (hr:Instr.findNow (.int kd) (.int kd k) ak 0=some r):
  (Instr.findKey kt (.int kd k) ak).run P w=.ok r w:=by
 simp [Instr.findKey,run_underlying hk,hr]
theorem av.ak (H:av P ρ h w) {i:Nat} {r:RI} {es:List (ByteArray×Value)} (hi:ρ i=some r) (he:h[i]?=some (.smap es)):
  ∃ak clock,w.heap[r.aD]?=some (.map ak clock)/\fJ ρ es ak.toList:=by
 obtain ⟨o,ho,hr⟩:=H.obj i r hi
 rw [he] at ho
 cases ho
 obtain ⟨ak,clock,h1,h2,h3⟩:=hr
 exact ⟨ak,clock,h1,fJ.of (by simpa using h2) (by simpa using h3)⟩
theorem av.AJ (H:av P ρ h w) {i:Nat} {r:RI} {kd:IntKind} {es:List (Int×Value)} (hi:ρ i=some r) (he:h[i]?=some (.dY kd es)):
  ∃ak clock,w.heap[r.aD]?=some (.map ak clock)/\fK kd ρ es ak.toList:=by
 obtain ⟨o,ho,hr⟩:=H.obj i r hi
 rw [he] at ho
 cases ho
 obtain ⟨ak,clock,h1,h2,h3⟩:=hr
 exact ⟨ak,clock,h1,fK.of (by simpa using h2) (by simpa using h3)⟩
theorem run_getObj_map {b:Nat} {ak:Array MapEntry} {clock:Nat} (hb:w.heap[b]?=some (.map ak clock)):(getObj b).run P w=.ok (.map ak clock) w:=by
 simp [getObj,Sem.run,hb]
theorem Ev {t:TypeId} {z:Value} (hz:nZ P t=some z):(∀w,(zeroValue t).run P w=.ok z w)/\eE z=true:=by
 unfold nZ at hz
 split at hz
 ·rename_i i hi
  split at hz
  ·rename_i z' vN
   split at hz
   ·rename_i hc
    simp at hz;subst hz
    simp [mY] at hc
    exact ⟨λw=>mH w hi vN,hc.1⟩
   ·cases hz
  ·cases hz
 ·cases hz
theorem Nt (H:av P ρ h w) {t kt et:TypeId} {ok:Bool} {z m m' k k' v:Value} (ht:P.underlying t=some (.map kt et)) (hk:isString P kt=true) (hz:nZ P et=some z)
  (hi:mj ok z h m k=some v) (hm:af ρ m m') (gL:af ρ k k'):∃v',(Instr.lookup t m' k' ok).run P w=.ok v' w/\af ρ v v':=by
 unfold mj at hi
 split at hi
 ·rename_i i key
  rw [gL.jD]
  cases hm with
  | map hr=>
   rename_i r
   split at hi
   ·rename_i es he
    obtain ⟨ak,clock,hb,l4⟩:=H.ak hr he
    obtain ⟨jv,hz2⟩:=Ev hz
    have eJ:=BP hk
    rcases Ij l4 key 0 with ⟨e1,e2⟩ | ⟨u,u',j,e1,e2,e3,_⟩
    ·rw [e1] at hi
     simp at hi
     have cn:(Instr.lookup t (.map (some r.aD)) (.string key) ok).run P w=.ok (if ok then .tuple #[z,.bool false] else z) w:=by
      simp [Instr.lookup,run_underlying ht,run_getObj_map hb,run_checkKey _ eJ,run_findKey eJ key _ e2,jv]
     refine ⟨_,cn,?_⟩
     subst hi
     cases ok
     ·exact eE.rel hz2
     ·exact af.jF (.cons (eE.rel hz2) (.cons (.bool _) .nil))
    ·rw [e1] at hi
     simp at hi
     have cn:(Instr.lookup t (.map (some r.aD)) (.string key) ok).run P w=.ok (if ok then .tuple #[u',.bool true] else u') w:=by
      simp [Instr.lookup,run_underlying ht,run_getObj_map hb,run_checkKey _ eJ,run_findKey eJ key _ e2]
     refine ⟨_,cn,?_⟩
     subst hi
     cases ok
     ·exact e3
     ·exact af.jF (.cons e3 (.cons (.bool _) .nil))
   ·cases hi
 ·cases hi
theorem BN {t:TypeId} {kd:IntKind} (h:mr P t=some kd):P.underlying t=some (.int kd):=by
 unfold mr at h
 split at h
 ·simp at h;subst h;assumption
 ·cases h
theorem Nv (H:av P ρ h w) {t kt et:TypeId} {kd:IntKind} {ok:Bool} {z m m' k k' v:Value} (ht:P.underlying t=some (.map kt et)) (hk:mr P kt=some kd) (hz:nZ P et=some z)
  (hi:rV kd ok z h m k=some v) (hm:af ρ m m') (gL:af ρ k k'):∃v',(Instr.lookup t m' k' ok).run P w=.ok v' w/\af ρ v v':=by
 unfold rV at hi
 split at hi
 ·rename_i i nN key
  rw [gL.dZ]
  cases hm with
  | map hr=>
   rename_i r
   split at hi
   ·rename_i fv es he
    split at hi
    ·rename_i fN
     obtain ⟨rfl,rfl⟩:=fN
     obtain ⟨ak,clock,hb,l4⟩:=H.AJ hr he
     obtain ⟨jv,hz2⟩:=Ev hz
     have eJ:=BN hk
     rcases Ik l4 key 0 with ⟨e1,e2⟩ | ⟨u,u',j,e1,e2,e3,_⟩
     ·rw [e1] at hi
      simp at hi
      have cn:(Instr.lookup t (.map (some r.aD)) (.int fv key) ok).run P w=.ok (if ok then .tuple #[z,.bool false] else z) w:=by
       simp [Instr.lookup,run_underlying ht,run_getObj_map hb,sI _ eJ,sJ eJ key _ e2,jv]
      refine ⟨_,cn,?_⟩
      subst hi
      cases ok
      ·exact eE.rel hz2
      ·exact af.jF (.cons (eE.rel hz2) (.cons (.bool _) .nil))
     ·rw [e1] at hi
      simp at hi
      have cn:(Instr.lookup t (.map (some r.aD)) (.int fv key) ok).run P w=.ok (if ok then .tuple #[u',.bool true] else u') w:=by
       simp [Instr.lookup,run_underlying ht,run_getObj_map hb,sI _ eJ,sJ eJ key _ e2]
      refine ⟨_,cn,?_⟩
      subst hi
      cases ok
      ·exact e3
      ·exact af.jF (.cons e3 (.cons (.bool _) .nil))
    ·cases hi
   ·cases hi
 ·cases hi
theorem Lf {o:Oper} {lo:ga} {g g':Operand->Value} (hc:jO P o.op=some lo) (aj:o.op.operands.all df=true) (H:av P ρ h w)
  (hg:∀x,df x=true->af ρ (g x) (g' x)) {v:Value} (hi:bM lo g h=some v):∃v',(execOp g' o).run P w=.ok (.value v') w/\af ρ v v':=by
 cases ho:o.op with
 | load t a=>
  rw [ho] at hc aj
  simp [Op.operands] at aj
  simp only [jO] at hc
  split at hc
  ·rename_i d ht
   split at hc
   ·rename_i hk
    simp at hc;subst hc
    simp only [and_eq_true] at hk
    obtain ⟨v',h1,h2⟩:=DZ H ht hk.1 hi (hg a aj)
    exact ⟨v',by simp [execOp,ho,h1],h2⟩
   ·cases hc
  ·cases hc
 | entry it=>
  rw [ho] at hc aj
  simp [Op.operands] at aj
  simp [jO] at hc;subst hc
  obtain ⟨v',h1,h2⟩:=Nl H hi (hg it aj)
  exact ⟨v',by simp [execOp,ho,h1],h2⟩
 | convert s d x=>
  rw [ho] at hc aj
  simp [Op.operands] at aj
  simp only [jO] at hc
  split at hc
  ·rename_i e hs hd
   split at hc
   ·rename_i he
    simp at hc;subst hc
    have hx:=hg x aj
    obtain ⟨h1,h2⟩:=Nd H hi hx
    refine ⟨v,?_,h2⟩
    have:(convert s d (g' x)).run P w=.ok v w:=by
     simp only [bM,hZ,bind_eq_some_iff] at hi
     obtain ⟨cs,kL,_⟩:=hi
     rcases sS H kL hx with ⟨e1,_⟩ | ⟨b,o',n,c',e1,_⟩
     ·rw [e1] at h1⊢;rw [run_convert_bytes_string w s d e _ _ _ hs he hd];exact h1
     ·rw [e1] at h1⊢;rw [run_convert_bytes_string w s d e _ _ _ hs he hd];exact h1
    simp [execOp,ho,this]
   ·cases hc
  ·cases hc
 | lookup t m k ok=>
  rw [ho] at hc aj
  simp [Op.operands] at aj
  simp only [jO] at hc
  split at hc
  ·rename_i g dO
   split at hc
   ·rename_i kt et ht
    simp only [map_eq_some_iff] at hc
    obtain ⟨z,hz,rfl⟩:=hc
    obtain ⟨v',h1,h2⟩:=Nu H dO ht hz hi (hg m aj.1) (hg k aj.2)
    exact ⟨v',by simp [execOp,ho,h1],h2⟩
   ·cases hc
  split at hc
  ·rename_i kt et ht
   split at hc
   ·rename_i hk
    simp only [map_eq_some_iff] at hc
    obtain ⟨z,hz,rfl⟩:=hc
    obtain ⟨v',h1,h2⟩:=Nt H ht hk hz hi (hg m aj.1) (hg k aj.2)
    exact ⟨v',by simp [execOp,ho,h1],h2⟩
   ·simp only [bind_eq_some_iff,map_eq_some_iff] at hc
    obtain ⟨kd,fN,z,hz,rfl⟩:=hc
    obtain ⟨v',h1,h2⟩:=Nv H ht fN hz hi (hg m aj.1) (hg k aj.2)
    exact ⟨v',by simp [execOp,ho,h1],h2⟩
  ·cases hc
 | _=>rw [ho] at hc;simp [jO] at hc
end
end
section
theorem sL {xs:List Value} {o:Nat} {vs:List Value} (h:o+vs.length<=xs.length) (j:Nat):
  (setAt xs o vs)[j]?=if j<o then xs[j]? else if j<o+vs.length then vs[j-o]? else xs[j]?:=by
 have hl:(xs.take o).length=o:=by simp;omega
 unfold setAt
 by_cases h1:j<o
 ·rw [if_pos h1,List.append_assoc,getElem?_append_left (by omega),List.getElem?_take,if_pos h1]
 ·rw [if_neg h1]
  by_cases h2:j<o+vs.length
  ·rw [if_pos h2,List.append_assoc,List.getElem?_append_right (by omega),hl,getElem?_append_left (by omega)]
  ·rw [if_neg h2,List.getElem?_append_right (by simp;omega),List.getElem?_drop]
   congr 1
   simp
   omega
theorem xE {xs:List Value} {o:Nat} {vs:List Value} (h:o+vs.length<=xs.length):(setAt xs o vs).length=xs.length:=by
 unfold setAt
 simp
 omega
theorem b0.le {ρ:ai} {c:Array Value} {xs:List Value} (h:b0 ρ c 0 xs):xs.length<=c.size:=by
 rcases Nat.eq_zero_or_pos xs.length with hz | hz
 ·omega
 ·have hx:xs[xs.length-1]?=some (xs[xs.length-1]'(by omega)):=List.getElem?_eq_getElem _
  obtain ⟨_,y,hy,_⟩:=h _ _ hx
  have:=(Array.getElem?_eq_some_iff.1 hy).1
  omega
theorem b0.put {ρ:ai} {c:Array Value} {xs:List Value} {o:Nat} {vs dh:List Value} (h:b0 ρ c 0 xs) (hv:aC ρ vs dh) (h1:∀x∈vs,cz x=true) (hl:o+vs.length<=xs.length):
  b0 ρ (setAt c.toList o dh).toArray 0 (setAt xs o vs):=by
 intro j x hj
 have bI:=h.le
 have hlen:=hv.length
 rw [sL hl] at hj
 have e:(setAt c.toList o dh).toArray[0+j]?=if j<o then c.toList[j]? else if j<o+dh.length then dh[j-o]? else c.toList[j]?:=by
  rw [zero_add,List.getElem?_toArray,sL (by simp;omega)]
 rw [e]
 by_cases A3:j<o
 ·rw [if_pos A3] at hj⊢
  obtain ⟨q1,y,q2,q3⟩:=h j x hj
  exact ⟨q1,y,by simpa using q2,q3⟩
 ·rw [if_neg A3] at hj⊢
  by_cases h2:j<o+vs.length
  ·rw [if_pos h2] at hj
   rw [if_pos (by omega)]
   obtain ⟨y,q2,q3⟩:=hv.get hj
   exact ⟨h1 x (mem_of_getElem? hj),y,q2,q3⟩
  ·rw [if_neg h2] at hj
   rw [if_neg (by omega)]
   obtain ⟨q1,y,q2,q3⟩:=h j x hj
   exact ⟨q1,y,by simpa using q2,q3⟩
theorem AW (z:List Value) (n:Nat):∀(j:Nat),j<n*z.length->(List.replicate n z).flatten[j]?=z[j%z.length]?:=by
 induction n with
 | zero=>intro j hj;simp at hj
 | succ n ih=>
  intro j hj
  rw [List.replicate_succ,List.flatten_cons]
  by_cases h:j<z.length
  ·rw [getElem?_append_left h,Nat.mod_eq_of_lt h]
  ·have e:j%z.length=(j-z.length)%z.length:=by rw [Nat.mod_eq_sub_mod (by omega)]
   rw [List.getElem?_append_right (by omega),ih _ (by rw [add_mul] at hj;omega),e]
theorem yp (z:List Value) (n:Nat):(dS z n).length=n*z.length:=by
 induction n with
 | zero=>simp [dS]
 | succ n ih=>simp only [dS,List.replicate_succ,List.flatten_cons,List.length_append] at ih⊢;rw [ih,add_mul];omega
theorem Ew {z:List Value} {n:Nat} {p:Value->Prop} (h:∀x∈z,p x):∀x∈dS z n,p x:=by
 intro x hx
 simp only [dS,List.mem_flatten,List.mem_replicate] at hx
 obtain ⟨l,⟨_,rfl⟩,hm⟩:=hx
 exact h x hm
theorem B5 (z:Array Value) (m j:Nat) (hj:j<m) (hz:0<z.size):(madeCells z m)[j]?=z[j%z.size]?:=by
 have hlt:j%z.size<z.size:=Nat.mod_lt _ hz
 simp [madeCells,hj,hlt]
theorem Lk (z:Value) (n k:Nat) (hk:(bc z).length=k):((Array.range (n*k)).map (z.cells[·%z.cells.size]!)).toList=dS (bc z) n:=by
 have hs:z.cells.size=k:=by rw [<-hk];simp [bc]
 apply List.ext_getElem?
 intro j
 by_cases hj:j<n*k
 ·have hz:0<z.cells.size:=by
   rcases Nat.eq_zero_or_pos k with h | h
   ·subst h;simp at hj
   ·omega
  have:=B5 z.cells (n*k) j hj hz
  simp only [madeCells] at this
  rw [getElem?_toList,this,dS,AW _ _ _ (by rw [hk];exact hj)]
  simp [bc]
 ·rw [List.getElem?_eq_none (by simp;omega),List.getElem?_eq_none (by rw [yp,hk];omega)]
section
variable {P : Program} {w : World} {ρ : ai} {h : ad}
def dD (P:Program) (ρ:ai) (h:ad) (w:World) (v:Value) (h':ad) (s:Result Next):Prop:=
 ∃nx w' ae v',s=.ok nx w'/\(nx=.value v'∨(nx=.skip/\v'=undef))/\af ae v v'/\av P ae h' w'/\Tr ρ h w ae h' w'
theorem av.arr (H:av P ρ h w) {i:Nat} {r:RI} {e:TypeId} {xs:List Value} (hi:ρ i=some r) (hx:h[i]?=some (.arr e xs)):
  r.elem=e/\r.sh=0/\∃c,w.heap[r.aD]?=some (.cells c e (0,0))/\c.size=r.size/\b0 ρ c 0 xs:=by
 obtain ⟨o,ho,hr⟩:=H.obj i r hi
 rw [hx] at ho
 cases ho
 exact hr
theorem NG (H:av P ρ h w) {t:TypeId} {a a' v v':Value} {h':ad} (hk:cy P t=true) (hi:jz (P.cellsOf t) h a v=some h') (ha:af ρ a a') (hv:af ρ v v'):
  ∃w',(Instr.storeAt t a' v').run P w=.ok () w'/\av P ρ h' w'/\Tr ρ h w ρ h' w':=by
 unfold jz at hi
 split at hi
 ·rename_i i o
  obtain ⟨r,hr,rfl⟩:=ha.pT
  split at hi
  ·rename_i e xs hx
   split at hi
   ·rename_i hc
    obtain ⟨hY,hl,hle⟩:=hc
    simp at hi;subst hi
    obtain ⟨h1,h2,c,h3,h4,h5⟩:=H.arr hr hx
    have nE:=hv.cells hY
    have jt:(bc v').length=P.cellsOf t:=by rw [<-nE.length];exact hl
    have bT:=run_storeCells_at P r.aD o e (bc v') 0 c w h3 (by have:=h5.le;simp;omega) (nE.pO (hv.qU hY))
    have heq:(c.toList.take (o+0)++bc v'++c.toList.drop (o+0+(bc v').length)).toArray=(setAt c.toList o (bc v')).toArray:=by simp [setAt]
    rw [heq] at bT
    have dd:aH h i:=.inl ⟨e,xs,hx⟩
    obtain ⟨q1,q2⟩:=H.set (o:=.arr e (setAt xs o (bc v))) hr dd (fb.row h3 (setAt c.toList o (bc v')).toArray)
     ⟨h1,h2,_,(fb.row h3 _).here,by simp [xE (show o+(bc v').length<=c.toList.length by have:=h5.le;simp;omega),h4],h5.put nE (hv.qU hY) (by omega)⟩
    refine ⟨_,?_,q1,q2⟩
    have fO:v'.cells.size=P.cellsOf t:=by rw [<-jt];simp [bc]
    have J1:(storeCells ⟨r.aD,r.sh+o,none⟩ v'.cells.toList).run P w=.ok () (w.setRow r.aD (setAt c.toList o (bc v')).toArray):=by
     rw [h2,zero_add]
     exact bT
    simp [Instr.storeAt,Instr.sureAddr,storeVar,gX w hk,fO,J1]
   ·cases hi
  ·cases hi
 ·cases hi
theorem pK (H:av P ρ h w) {w':World} {e:TypeId} {c:Array Value} {xs:List Value} (nb:dm w (.cells c e) w') (hc:b0 ρ c 0 xs):
  av P (ρ.add h.length ⟨w.heap.size,0,e,P.cellsOf e,c.size⟩) (h++[.arr e xs]) w'/\Tr ρ h w (ρ.add h.length ⟨w.heap.size,0,e,P.cellsOf e,c.size⟩) (h++[.arr e xs]) w':=
 H.new nb rfl rfl rfl (λ_=>.inl rfl) ⟨rfl,rfl,c,nb.new,rfl,hc.mono (ai.kg H.none)⟩
theorem mT (ρ:ai) (i:Nat) (r:RI):ρ.add i r i=some r:=by simp [ai.add]
theorem Cc (ρ:ai) (h:ad) (r:RI) (hs:r.sh=0):af (ρ.add h.length r) (nP h) (.pointer (some ⟨r.aD,0,none⟩)):=by
 have:=af.ptr (ρ:=ρ.add h.length r) (i:=h.length) (o:=0) (mT _ _ _)
 rw [hs] at this
 exact this
theorem pX (ρ:ai) (i:Nat) (r:RI) (hs:r.sh=0) {n c':Nat} (hn:n<=c') (hc:c'<=maxLen) (hb:c'*r.aL<=r.size):af (ρ.add i r) (sl r.elem i 0 n) (.slice (some ⟨r.aD,0,none⟩) n c'):=
 af.slice (mT _ _ _) (.inl (by omega)) hn hc (by omega)
theorem Ng (H:av P ρ h w) {e:TypeId} {x x' v:Value} {h':ad} (hi:kc e h x=some (v,h')) (hx:af ρ x x'):
  ∃w' ae v',(Instr.box e x').run P w=.ok v' w'/\af ae v v'/\av P ae h' w'/\Tr ρ h w ae h' w':=by
 unfold kc at hi
 split at hi
 ·rename_i hY
  simp at hi
  obtain ⟨rfl,rfl⟩:=hi
  have hc:b0 ρ x'.cells 0 (bc x):=b0.of (hx.cells hY) (hx.qU hY)
  obtain ⟨q1,q2⟩:=pK H (dm.alloc w (.cells x'.cells e)) hc
  exact ⟨_,_,_,by simp [Instr.box,newVar,newRow],Cc _ _ _ rfl,q1,q2⟩
 ·cases hi
theorem Nb (H:av P ρ h w) {e:TypeId} {zs:List Value} (hz:zeroOf P e=some zs):
  ∃w' ae v',(Instr.alloc e true (.tuple #[])).run P w=.ok v' w'/\af ae (nP h) v'/\av P ae (h++[.arr e zs]) w'/\Tr ρ h w ae (h++[.arr e zs]) w':=by
 obtain ⟨i,z,hi,gQ,rfl,hY,bI,hlen⟩:=n0 hz
 have hc:b0 ρ z.cells 0 (bc z):=b0.of (aC.closed λx hx=>(bI x hx).1) (λx hx=>(bI x hx).2)
 obtain ⟨q1,q2⟩:=pK H (dm.alloc w (.cells z.cells e)) hc
 exact ⟨_,_,_,by simp [Instr.alloc,mH w hi gQ,newVar,newRow],Cc _ _ _ rfl,q1,q2⟩
theorem uu {t:TypeId} {i:TypeInfo} (hi:P.info? t=some i):P.cellsOf t=i.size:=by simp [Program.cellsOf,hi]
theorem zn {t:TypeId} {i:TypeInfo} (hi:P.info? t=some i):P.bytesOf t=i.bytes:=by simp [Program.bytesOf,hi]
theorem NA (H:av P ρ h w) {t e:TypeId} {n:Nat} {zs:List Value} {ps:List (Nat×Nat×Value)} {qs:Array (Nat×Value)} {v:Value} {h':ad} (ht:P.underlying t=some (.slice e)) (hz:zeroOf P e=some zs)
  (hn:n*P.cellsOf e<=16777216) (aV:P.cellsOf e≠0) (hp:jL ρ (λi=>some (i*P.cellsOf e,P.cellsOf e)) ps qs.toList) (hi:bR e n zs h ps=some (v,h')):
  ∃w' ae v',(Instr.buildSlice t n qs).run P w=.ok v' w'/\af ae v v'/\av P ae h' w'/\Tr ρ h w ae h' w':=by
 obtain ⟨i,z,fC,gQ,rfl,hY,bI,hlen⟩:=n0 hz
 have hk:cy P e=true:=by simp [cy,fC]
 have gK:=uu fC
 simp only [bR,map_eq_some_iff,Prod.mk.injEq] at hi
 obtain ⟨cs,hf,rfl,rfl⟩:=hi
 obtain ⟨zero,iN,Kl⟩:∃zero:Array Value,(if n*P.cellsOf e=0 then (Pure.pure #[]:Sem (Array Value)) else do pure (<-zeroValue e).cells).run P w=.ok zero w/\
   ((Array.range (n*P.cellsOf e)).map (zero[·%zero.size]!)).toList=dS (bc z) n:=by
  by_cases h0:n*P.cellsOf e=0
  ·refine ⟨#[],by simp [h0],?_⟩
   have hn0:n=0:=by
    rcases Nat.mul_eq_zero.1 h0 with h | h
    ·exact h
    ·exact absurd h aV
   subst hn0
   simp [dS,Array.range_zero']
  ·exact ⟨z.cells,by simp [h0,mH w fC gQ],by rw [gK];exact Lk z n i.size hlen⟩
 have IW:aC ρ (dS (bc z) n) (dS (bc z) n):=aC.closed (Ew λx hx=>(bI x hx).1)
 obtain ⟨cV,ny,hr,h1,hl2⟩:=uQ (ys:=(Array.range (n*P.cellsOf e)).map (zero[·%zero.size]!)) hp hf (by rw [Kl];exact IW) (Ew λx hx=>(bI x hx).2)
 obtain ⟨q1,q2⟩:=pK H (dm.alloc w (.cells cV e)) (b0.of hr h1)
 have fO:cV.size=n*P.cellsOf e:=by
  have:=hr.length
  rw [hl2,yp,hlen,<-gK] at this
  simpa using this.symm
 have vA:n<=maxLen:=by
  have h1:1<=P.cellsOf e:=by omega
  have:=Nat.mul_le_mul_left n h1
  unfold maxLen
  omega
 refine ⟨_,_,.slice (some ⟨w.heap.size,0,none⟩) n n,?_,pX ρ h.length ⟨w.heap.size,0,e,P.cellsOf e,cV.size⟩ rfl (le_refl _) vA (by simp [fO]),q1,q2⟩
 unfold Instr.buildSlice
 simp only [Sem.run_bind,run_underlying ht,Result.andThen_ok,gX w hk]
 have IC:¬(n*P.cellsOf e>2^24):=by rw [show (2^24:Nat)=16777216 from rfl];omega
 rw [if_neg IC]
 by_cases h0:n*P.cellsOf e=0
 ·rw [if_pos h0] at iN⊢
  simp only [Sem.run_pure,Result.ok.injEq,and_true] at iN
  subst iN
  simp only [Sem.run_bind,Sem.run_pure,Result.andThen_ok,ny]
  simp [newRow]
 ·rw [if_neg h0] at iN⊢
  simp only [Sem.run_bind,Sem.run_pure] at iN⊢
  rw [mH w fC gQ] at iN⊢
  simp only [Result.andThen_ok,Result.ok.injEq,and_true] at iN⊢
  subst iN
  rw [ny]
  simp [newRow]
end
end
section
section
variable {P : Program} {w : World} {ρ : ai} {h : ad}
theorem Nw (H:av P ρ h w) {t e:TypeId} {zs:List Value} {l c l' c' v:Value} {h':ad} (ht:P.underlying t=some (.slice e)) (hz:zeroOf P e=some zs)
  (hi:pB e (P.bytesOf e) zs h l c=some (v,h')) (hl:af ρ l l') (hc:af ρ c c'):
  ∃w' ae v',(Instr.makeSlice t l' c').run P w=.ok v' w'/\af ae v v'/\av P ae h' w'/\Tr ρ h w ae h' w':=by
 obtain ⟨i,z,fC,gQ,rfl,hY,bI,hlen⟩:=n0 hz
 unfold pB at hi
 split at hi
 ·rename_i k1 l k2 c
  rw [hl.dZ,hc.dZ]
  split at hi
  ·rename_i hb
   obtain ⟨h0,h1,h2,h3⟩:=hb
   simp at hi
   obtain ⟨rfl,rfl⟩:=hi
   rw [zn fC] at h2
   have cn:=run_make (P:=P) w t e i z ht fC gQ k1 k2 l c h0 h1 h2 h3
   have lX:b0 ρ (madeCells z.cells (c.toNat*i.size)) 0 (dS (bc z) l.toNat):=by
    intro j x hj
    have dF:j<l.toNat*i.size:=by
     have:=(bu hj).1
     rwa [yp,hlen] at this
    have nG:z.cells.size=i.size:=by rw [<-hlen];simp [bc]
    have mc:0<z.cells.size:=by
     rcases Nat.eq_zero_or_pos i.size with q | q
     ·rw [q] at dF;simp at dF
     ·omega
    have Bn:l.toNat*i.size<=c.toNat*i.size:=Nat.mul_le_mul_right _ (by omega)
    rw [dS,AW _ _ _ (by rw [hlen];exact dF)] at hj
    have hx:x∈bc z:=mem_of_getElem? hj
    refine ⟨(bI x hx).2,x,?_,eE.rel (bI x hx).1⟩
    rw [zero_add,B5 _ _ _ (by omega) mc]
    simpa [bc] using hj
   obtain ⟨q1,q2⟩:=pK H (dm.alloc w (.cells (madeCells z.cells (c.toNat*i.size)) e)) lX
   refine ⟨_,_,_,cn,?_,q1,q2⟩
   exact pX ρ h.length ⟨w.heap.size,0,e,P.cellsOf e,(madeCells z.cells (c.toNat*i.size)).size⟩ rfl (by omega) (by unfold maxLen;omega) (by simp [size_madeCells,uu fC])
  ·cases hi
 ·cases hi
theorem DV {t e:TypeId} {i:TypeInfo} (ht:P.underlying t=some (.slice e)) (hi:P.info? e=some i) (type:TypeId) (b:Option Addr) (n c:Nat) (x:Value) (hn:n<=c)
  (hx:x=.slice none 0 0∨∃a c2,x=.slice (some a) 0 c2):(Builtin.append_ #[t,t] type #[.slice b n c,x]).run P w=.ok (.slice b n c) w:=by
 rcases hx with rfl | ⟨a,c2,rfl⟩
 ·cases b <;> simp [Builtin.append_,run_underlying ht,sizeOf,typeInfo,hi,Builtin.lenOf,hn,Builtin.firstCells,storeCells]
 ·cases b <;> simp [Builtin.append_,run_underlying ht,sizeOf,typeInfo,hi,Builtin.lenOf,hn,Builtin.firstCells,loadCells,loadCellsFrom,storeCells]
theorem uv {ρ:ai} {c:Array Value} {xs ys zs:List Value} (hx:∀(j:Nat) (x:Value),xs[j]?=some x->cz x=true/\∃y,c[j]?=some y/\af ρ x y) (hz:aC ρ zs ys) (h1:∀x∈zs,cz x=true)
  (hc:∀(j:Nat) (y:Value),ys[j]?=some y->c[xs.length+j]?=some y):b0 ρ c 0 (xs++zs):=by
 intro j x hj
 by_cases hlt:j<xs.length
 ·rw [getElem?_append_left hlt] at hj
  simpa using hx j x hj
 ·rw [List.getElem?_append_right (by omega)] at hj
  obtain ⟨y,hy,hr⟩:=hz.get hj
  refine ⟨h1 x (mem_of_getElem? hj),y,?_,hr⟩
  have:=hc _ y hy
  rw [<-this]
  congr 1
  omega
theorem Nc (H:av P ρ h w) {t e:TypeId} {zs:List Value} {type:TypeId} {s x s' x' v:Value} {h':ad} (ht:P.underlying t=some (.slice e)) (hz:zeroOf P e=some zs)
  (hi:cO e (P.cellsOf e) (P.bytesOf e) h s x=some (v,h')) (hs:af ρ s s') (hx:af ρ x x'):
  ∃w' ae v',(Builtin.append_ #[t,t] type #[s',x']).run P w=.ok v' w'/\af ae v v'/\av P ae h' w'/\Tr ρ h w ae h' w':=by
 obtain ⟨i,z,fC,gQ,rfl,hY,bI,hlen⟩:=n0 hz
 have gK:=uu fC
 have Bb:=zn fC
 have nG:z.cells.size=i.size:=by rw [<-hlen];simp [bc]
 unfold cO at hi
 split at hi
 ·rename_i news m hn hm
  have rQ:=sS H hn hx
  have iN:m=0->(x'=.slice none 0 0∨∃a c2,x'=.slice (some a) 0 c2):=by
   intro ju
   rcases rQ with ⟨e1,_⟩ | ⟨b,o,n2,c2,e1,e2,_⟩
   ·exact .inl e1
   ·rw [hm] at e2;cases e2;subst ju;exact .inr ⟨_,_,e1⟩
  have Bt:0<m->∃b o c2,x'=.slice (some ⟨b,o,none⟩) m c2/\news.length=m*i.size/\(∀v∈news,cz v=true)/\
    ∃ys,aC ρ news ys/\ys.length=m*i.size/\∀j v,ys[j]?=some v->w.cell? ((⟨b,o,none⟩:Addr).add j)=some v:=by
   intro ju
   rcases rQ with ⟨e1,e2⟩ | ⟨b,o,n2,c2,e1,e2,e3,e4,ys,e5,e6⟩
   ·subst e1
    cases hx
    ·simp [gl] at hm
     omega
    ·simp [gl] at hm
   ·rw [hm] at e2;cases e2
    refine ⟨b,o,c2,e1,by rw [e3,gK],e4,ys,e5,by rw [<-e5.length,e3,gK],?_⟩
    intro j v hj
    rw [Addr.add_lit]
    exact e6 j v hj
  split at hi
  ·cases hs
   split at hi
   ·rename_i ju
    simp at hi
    obtain ⟨rfl,rfl⟩:=hi
    exact ⟨w,ρ,_,DV ht fC type none 0 0 x' (le_refl _) (iN ju),.gV,H,Tr.refl H⟩
   ·rename_i ju
    split at hi
    ·rename_i hb
     obtain ⟨IK,hb2⟩:=hb
     simp at hi
     obtain ⟨rfl,rfl⟩:=hi
     obtain ⟨b,o,c2,rfl,f1,f2,ys,f3,f4,f5⟩:=Bt (by omega)
     have cn:=run_append_nil (P:=P) w t type e i z ht fC gQ ⟨b,o,none⟩ m c2 ys f4 f5 (by omega) (by unfold maxLen at hb2;omega) (by rw [<-Bb];omega)
     have eI:=grownCap_ge w m 0 e
     have lX:b0 ρ (ys.toArray++Builtin.zeroCells z.cells (grownCap w m 0 e-m)) 0 news:=by
      have:=uv (ρ:=ρ) (c:=ys.toArray++Builtin.zeroCells z.cells (grownCap w m 0 e-m)) (xs:=[]) (ys:=ys) (zs:=news) (by simp) f3 f2 (by
       intro j y hj
       have hlt:=(bu hj).1
       rw [Array.getElem?_append_left (by simpa using hlt)]
       simpa using hj)
      simpa using this
     obtain ⟨q1,q2⟩:=pK H (dm.drew w (.cells (ys.toArray++Builtin.zeroCells z.cells (grownCap w m 0 e-m)) e)) lX
     refine ⟨_,_,_,cn,?_,q1,q2⟩
     refine pX ρ h.length ⟨w.heap.size,0,e,P.cellsOf e,(ys.toArray++Builtin.zeroCells z.cells (grownCap w m 0 e-m)).size⟩ rfl eI (grownCap_le_maxLen w m 0 e hb2) ?_
     simp only [Array.size_append,List.size_toArray,size_zeroCells,f4,nG,gK]
     rw [<-add_mul]
     exact Nat.mul_le_mul_right _ (by omega)
    ·cases hi
  ·rename_i ii e' n cc
   split at hi
   ·rename_i AD xs hxs
    split at hi
    ·rename_i hb
     obtain ⟨rfl,rfl,IL,IM,vf⟩:=hb
     have JR:=hs
     cases hs with
     | slice hr ho hnc IX jn=>
      rename_i o' c' r
      obtain ⟨g1,g2,c,g3,g4,g5⟩:=H.arr hr hxs
      obtain rfl:o'=0:=by
       rcases ho with ho | ⟨_,q,_⟩
       ·omega
       ·omega
      have dV:=H.aL _ _ hr
      split at hi
      ·rename_i ju
       simp at hi
       obtain ⟨rfl,rfl⟩:=hi
       exact ⟨w,ρ,_,DV ht fC type _ n c' x' hnc (iN ju),JR,H,Tr.refl H⟩
      ·rename_i ju
       simp at hi
       obtain ⟨rfl,rfl⟩:=hi
       obtain ⟨b,o,c2,rfl,f1,f2,ys,f3,f4,f5⟩:=Bt (by omega)
       rw [gK] at IL
       have nv:r.aL=i.size:=by rw [dV,gK]
       have dd:aH h ii:=.inl ⟨_,xs,hxs⟩
       by_cases vH:n+m<=c'
       ·have rz:n*i.size+ys.length<=c.size:=by
         rw [f4,g4,<-add_mul]
         have:=Nat.mul_le_mul_right i.size vH
         rw [nv] at jn
         omega
        have cn:=run_append_room (P:=P) w t type r.elem i ht fC r.aD n c' c g3 ⟨b,o,none⟩ m c2 ys f4 f5 (f3.pO f2) vH rz
        have kL:(c.toList.take (n*i.size)++ys++c.toList.drop (n*i.size+ys.length)).toArray=(setAt c.toList (n*i.size) ys).toArray:=rfl
        rw [kL] at cn
        have fO:(setAt c.toList (n*i.size) ys).toArray.size=c.size:=by simp [xE (show n*i.size+ys.length<=c.toList.length by simpa using rz)]
        have lX:b0 ρ (setAt c.toList (n*i.size) ys).toArray 0 (xs++news):=by
         refine uv (ys:=ys) ?_ f3 f2 ?_
         ·intro j x hj
          have hlt:=(bu hj).1
          obtain ⟨k1,y,k2,k3⟩:=g5 j x hj
          refine ⟨k1,y,?_,k3⟩
          rw [List.getElem?_toArray,sL (by simpa using rz),if_pos (by omega)]
          simpa using k2
         ·intro j y hj
          have hlt:=(bu hj).1
          rw [List.getElem?_toArray,sL (by simpa using rz),if_neg (by omega),if_pos (by omega)]
          rw [<-hj]
          congr 1
          omega
        have sb:=fb.row g3 (setAt c.toList (n*i.size) ys).toArray
        obtain ⟨q1,q2⟩:=H.move (o:=.arr r.elem (xs++news)) hr dd sb ⟨rfl,g2,_,sb.here,by rw [fO,g4],lX.mono (ai.kg H.none)⟩
        refine ⟨_,_,_,cn,?_,q1,q2⟩
        exact pX ρ h.length r g2 vH IX (by omega)
       ·obtain ⟨wR,o1,o2,o3,o4⟩:=g5.xY (o:=0) (n:=n*i.size) (by omega)
        have Kh:(xs.drop 0).take (n*i.size)=xs:=by rw [List.drop_zero];exact List.take_of_length_le (by omega)
        rw [Kh] at o1 o3
        have rK:∀j v,wR[j]?=some v->w.cell? ((⟨r.aD,0,none⟩:Addr).add j)=some v:=by
         intro j v hj
         rw [Addr.add_lit,qT g3]
         simpa using o4 j v hj
        have Bd:=growslice_fits (need:=n+m) (old:=c') (bytes:=P.bytesOf r.elem) (by omega) IM
        rw [Bb] at Bd
        have cn:=run_append_grow (P:=P) w t type r.elem i z ht fC gQ ⟨r.aD,0,none⟩ n c' wR o2 rK ⟨b,o,none⟩ m c2 ys f4 f5 (by omega) (by unfold maxLen at vf;omega) Bd
        have eI:=grownCap_ge w (n+m) c' r.elem
        generalize jo:wR.toArray++ys.toArray++Builtin.zeroCells z.cells (grownCap w (n+m) c' r.elem-(n+m))=cc at cn
        have IU:cc.size=n*i.size+m*i.size+(grownCap w (n+m) c' r.elem-(n+m))*i.size:=by
         rw [<-jo];simp only [Array.size_append,List.size_toArray,size_zeroCells,o2,f4,nG]
        have lX:b0 ρ cc 0 (xs++news):=by
         refine uv (ys:=ys) ?_ f3 f2 ?_
         ·intro j x hj
          have hlt:=(bu hj).1
          obtain ⟨y,k2,k3⟩:=o1.get hj
          refine ⟨o3 x (mem_of_getElem? hj),y,?_,k3⟩
          rw [<-jo,Array.append_assoc,Array.getElem?_append_left (by simp;omega)]
          simpa using k2
         ·intro j y hj
          have hlt:=(bu hj).1
          rw [<-jo,Array.append_assoc,Array.getElem?_append_right (by simp;omega),Array.getElem?_append_left (by simp;omega)]
          rw [<-hj,List.getElem?_toArray]
          congr 1
          simp
          omega
        have nb:=dm.drew w (.cells cc r.elem)
        obtain ⟨q1,q2⟩:=H.new (h₀:=h.set ii .dead) (o:=.arr r.elem (xs++news)) (r:=⟨w.heap.size,0,r.elem,P.cellsOf r.elem,cc.size⟩) nb rfl rfl (by simp) (by
          intro j
          by_cases hj:j=ii
          ·subst hj;right;rw [List.getElem?_set_self (H.lt hr)]
          ·left;rw [getElem?_set_ne (Ne.symm hj)]) ⟨rfl,rfl,cc,nb.new,rfl,lX.mono (ai.kg H.none)⟩
        refine ⟨_,_,_,cn,?_,q1,q2⟩
        refine pX ρ h.length ⟨w.heap.size,0,r.elem,P.cellsOf r.elem,cc.size⟩ rfl eI (grownCap_le_maxLen w (n+m) c' r.elem vf) ?_
        simp only [IU,gK]
        rw [<-add_mul,<-add_mul]
        exact Nat.mul_le_mul_right _ (by omega)
    ·cases hi
   ·cases hi
  ·cases hi
 ·cases hi
theorem Nj (H:av P ρ h w) {t e tt:TypeId} {type:TypeId} {d x d' x' v:Value} {h':ad} (ht:P.underlying t=some (.slice e)) (hz:(P.info? e).map (·.size)=some 1) (hi:vS h d x=some (v,h')) (hd:af ρ d d') (hx:af ρ x x'):
  ∃w',(Builtin.copy_ #[t,tt] type #[d',x']).run P w=.ok v w'/\af ρ v v/\av P ρ h' w'/\Tr ρ h w ρ h' w':=by
 unfold vS at hi
 split at hi
 ·rename_i n m cs hn hm kL
  have I1:∃p c,d'=.slice p n c:=by
   unfold gl at hn
   split at hn
   ·cases hd;cases hn;exact ⟨_,_,rfl⟩
   ·cases hd;cases hn;exact ⟨_,_,rfl⟩
   ·cases hn
  have rP:∃p c,x'=.slice p m c:=by
   unfold gl at hm
   split at hm
   ·cases hx;cases hm;exact ⟨_,_,rfl⟩
   ·cases hx;cases hm;exact ⟨_,_,rfl⟩
   ·cases hm
  split at hi
  ·rename_i h0
   simp at hi
   obtain ⟨rfl,rfl⟩:=hi
   obtain ⟨p,c,rfl⟩:=I1
   obtain ⟨q,c',rfl⟩:=rP
   exact ⟨w,run_copy_none (P:=P) w t tt type e p q n c m c' ht hz h0,.int _ _,H,.refl H⟩
  ·rename_i h0
   split at hi
   ·rename_i i o e' n' c0
    split at hi
    ·rename_i e2 xs hg
     split at hi
     ·rename_i hle
      simp only [Option.some.injEq,Prod.mk.injEq] at hi
      obtain ⟨rfl,rfl⟩:=hi
      cases hd with
      | slice hr ho hn2 hc hb=>
       rename_i o' c' r
       simp [gl] at hn
       subst hn
       have mc:0<n':=by
        have:Nat.min m n'<=n':=Nat.min_le_right _ _
        omega
       have bm:o'=r.sh+o:=by
        rcases ho with ho | ⟨q1,q2,q3⟩
        ·exact ho
        ·omega
       subst bm
       obtain ⟨a1,a2,c,a3,a4,a5⟩:=H.arr hr hg
       rcases sS H kL hx with ⟨rfl,rfl⟩ | ⟨b,ob,nn,cc,rfl,hl,hlen,nu,ys,pz,Jl⟩
       ·obtain ⟨q,c',hq⟩:=rP
        cases hq
        exact absurd (Nat.zero_min n') h0
       ·rw [hm] at hl
        cases hl
        rw [Nat.mul_one] at hlen
        have Kj:=pz.length
        have hlt:(ys.take (Nat.min m n')).length=Nat.min m n':=by
         rw [List.length_take,<-Kj,hlen];exact Nat.min_eq_left (Nat.min_le_left _ _)
        have Pc:(cs.take (Nat.min m n')).length=Nat.min m n':=by
         rw [List.length_take,hlen];exact Nat.min_eq_left (Nat.min_le_left _ _)
        have Bw:aC ρ (cs.take (Nat.min m n')) (ys.take (Nat.min m n')):=pz.take _
        have A6:∀v∈cs.take (Nat.min m n'),cz v=true:=λv hv=>nu v (List.mem_of_mem_take hv)
        have cn:=run_copy_row (P:=P) w t tt type e r.aD (r.sh+o) n' c' ⟨b,ob,none⟩ m cc c e2 (ys.take (Nat.min m n')) ht hz a3 hlt
         (λj v hj=>by
          rw [List.getElem?_take] at hj
          split at hj
          ·rw [Addr.add_lit];exact Jl j v hj
          ·cases hj) (by have:=a5.le;rw [hlt,a2];omega) (Bw.pO A6)
        rw [hlt,a2,zero_add] at cn
        have heq:(c.toList.take o++ys.take (Nat.min m n')++c.toList.drop (o+Nat.min m n')).toArray=(setAt c.toList o (ys.take (Nat.min m n'))).toArray:=by simp only [setAt,hlt]
        rw [heq] at cn
        have dd:aH h i:=.inl ⟨e2,xs,hg⟩
        obtain ⟨q1,q2⟩:=H.set (o:=.arr e2 (setAt xs o (cs.take (Nat.min m n')))) hr dd (fb.row a3 (setAt c.toList o (ys.take (Nat.min m n'))).toArray)
         ⟨a1,a2,_,(fb.row a3 _).here,by simp [xE (show o+(ys.take (Nat.min m n')).length<=c.toList.length by have:=a5.le;simp only [Array.length_toList];omega),a4],a5.put Bw A6 (by omega)⟩
        refine ⟨_,?_,.int _ _,q1,q2⟩
        rw [a2,zero_add];exact cn
     ·cases hi
    ·cases hi
   ·cases hi
 ·cases hi
end
end
section
theorem fb.obj {w:World} {g:Nat} {x:Obj} (hg:w.heap[g]?=some x) (b:Obj):fb w g b { w with heap:=w.heap.setIfInBounds g b } where
 here:=by
  have:=(Array.getElem?_eq_some_iff.1 hg).1
  simp [this]
 other:=by intro j hj;simp [Ne.symm hj]
 size:=by simp
 os:=rfl
 tape:=rfl
 output:=rfl
theorem Il {ρ:ai} {es:List (ByteArray×Value)} {ak:List MapEntry} (h:fJ ρ es ak) (k:ByteArray) {v v':Value} (hv:af ρ v v') (born:Nat):∀i:Nat,
  (Instr.findNow .string (.string k) ak i=some none/\fJ ρ (fy k v es) (ak++[{ key:=.string k,val:=v',born }]))∨
  (∃u j,Instr.findNow .string (.string k) ak i=some (some (i+j,u))/\(∃en,ak[j]?=some en/\en.key=.string k)/\fJ ρ (fy k v es) (ak.modify j λe=>{ e with key:=.string k,val:=v' })):=by
 induction h with
 | nil=>intro i;exact .inl ⟨rfl,.cons rfl hv .nil⟩
 | cons h1 h2 h3 ih=>
  rename_i k0 v0 en es ak
  intro i
  by_cases hk:k=k0
  ·subst hk
   have hb:(k==k)=true:=(MapKept.bytes_beq k k).2 rfl
   refine .inr ⟨en.val,0,?_,⟨en,rfl,h1⟩,?_⟩
   ·simp [Instr.findNow,h1,Instr.sameNow,hb]
   ·simp only [fy,if_true,List.modify_zero_cons]
    exact .cons rfl hv h3
  ·have hb:(k==k0)=false:=by
    rw [Bool.eq_false_iff]
    exact λe=>hk ((MapKept.bytes_beq k k0).1 e)
   rcases ih (i+1) with ⟨e1,e2⟩ | ⟨u,j,e1,e2,e3⟩
   ·refine .inl ⟨?_,?_⟩
    ·simp [Instr.findNow,h1,Instr.sameNow,hb,e1]
    ·simp only [fy,if_neg hk,List.cons_append]
     exact .cons h1 h2 e2
   ·refine .inr ⟨u,j+1,?_,by simpa using e2,?_⟩
    ·simp [Instr.findNow,h1,Instr.sameNow,hb,e1];omega
    ·simp only [fy,if_neg hk,List.modify_succ_cons]
     exact .cons h1 h2 e3
theorem Im {kd:IntKind} {ρ:ai} {es:List (Int×Value)} {ak:List MapEntry} (h:fK kd ρ es ak) (k:Int) {v v':Value} (hv:af ρ v v') (born:Nat):∀i:Nat,
  (Instr.findNow (.int kd) (.int kd k) ak i=some none/\fK kd ρ (iX k v es) (ak++[{ key:=.int kd k,val:=v',born }]))∨
  (∃u j,Instr.findNow (.int kd) (.int kd k) ak i=some (some (i+j,u))/\(∃en,ak[j]?=some en/\en.key=.int kd k)/\fK kd ρ (iX k v es) (ak.modify j λe=>{ e with key:=.int kd k,val:=v' })):=by
 induction h with
 | nil=>intro i;exact .inl ⟨rfl,.cons rfl hv .nil⟩
 | cons h1 h2 h3 ih=>
  rename_i k0 v0 en es ak
  intro i
  by_cases hk:k=k0
  ·subst hk
   have hb:(k==k)=true:=beq_self_eq_true k
   refine .inr ⟨en.val,0,?_,⟨en,rfl,h1⟩,?_⟩
   ·simp [Instr.findNow,h1,Instr.sameNow]
   ·simp only [iX,if_true,List.modify_zero_cons]
    exact .cons rfl hv h3
  ·have hb:(k==k0)=false:=by
    exact beq_false_of_ne hk
   rcases ih (i+1) with ⟨e1,e2⟩ | ⟨u,j,e1,e2,e3⟩
   ·refine .inl ⟨?_,?_⟩
    ·simp [Instr.findNow,h1,Instr.sameNow,hb,e1]
    ·simp only [iX,if_neg hk,List.cons_append]
     exact .cons h1 h2 e2
   ·refine .inr ⟨u,j+1,?_,by simpa using e2,?_⟩
    ·simp [Instr.findNow,h1,Instr.sameNow,hb,e1];omega
    ·simp only [iX,if_neg hk,List.modify_succ_cons]
     exact .cons h1 h2 e3
section
variable {P : Program} {w : World} {ρ : ai} {h : ad}
theorem Nx (H:av P ρ h w) (t:TypeId):∃w' ae v',(Instr.makeMap t none).run P w=.ok v' w'/\af ae (.map (some h.length)) v'/\av P ae (h++[.smap []]) w'/\Tr ρ h w ae (h++[.smap []]) w':=by
 have nb:=dm.alloc w (.map #[] 0)
 obtain ⟨q1,q2⟩:=H.new (h₀:=h) (o:=.smap []) (r:=⟨w.heap.size,0,0,P.cellsOf 0,0⟩) nb rfl rfl rfl (λ_=>.inl rfl) ⟨#[],0,nb.new,rfl,λj k v hj=>by simp at hj⟩
 refine ⟨_,_,.map (some w.heap.size),?_,af.map (mT _ _ _),q1,q2⟩
 simp [Instr.makeMap]
theorem Nz (H:av P ρ h w) (t:TypeId) (kd:IntKind):∃w' ae v',(Instr.makeMap t none).run P w=.ok v' w'/\af ae (.map (some h.length)) v'/\av P ae (h++[.dY kd []]) w'/\Tr ρ h w ae (h++[.dY kd []]) w':=by
 have nb:=dm.alloc w (.map #[] 0)
 obtain ⟨q1,q2⟩:=H.new (h₀:=h) (o:=.dY kd []) (r:=⟨w.heap.size,0,0,P.cellsOf 0,0⟩) nb rfl rfl rfl (λ_=>.inl rfl) ⟨#[],0,nb.new,rfl,λj k v hj=>by simp at hj⟩
 refine ⟨_,_,.map (some w.heap.size),?_,af.map (mT _ _ _),q1,q2⟩
 simp [Instr.makeMap]
theorem k9 {g:Nat} {ak:Array MapEntry} {clock:Nat} (hg:w.heap[g]?=some (.map ak clock)) (o:Obj):(setObj g o).run P w=.ok () { w with heap:=w.heap.setIfInBounds g o }:=by
 simp [setObj,Sem.run,hg]
theorem D0 (H:av P ρ h w) {t kt et:TypeId} {m m' k k' v v':Value} {h':ad} (ht:P.underlying t=some (.map kt et)) (hk:isString P kt=true)
  (hi:nH h m k v=some h') (hm:af ρ m m') (gL:af ρ k k') (hv:af ρ v v'):∃w',(Instr.mapUpdate t m' k' v').run P w=.ok () w'/\av P ρ h' w'/\Tr ρ h w ρ h' w':=by
 unfold nH at hi
 split at hi
 ·rename_i i key
  rw [gL.jD]
  cases hm with
  | map hr=>
   rename_i r
   split at hi
   ·rename_i es he
    simp at hi;subst hi
    obtain ⟨ak,clock,hb,l4⟩:=H.ak hr he
    have eJ:=BP hk
    have dd:aH h i:=.inr (.inl ⟨es,he⟩)
    have mk:∀(gH:Array MapEntry) (iz:Nat),fJ ρ (fy key v es) gH.toList->av P ρ (h.set i (.smap (fy key v es))) { w with heap:=w.heap.setIfInBounds r.aD (.map gH iz) }/\
      Tr ρ h w ρ (h.set i (.smap (fy key v es))) { w with heap:=w.heap.setIfInBounds r.aD (.map gH iz) }:=by
     intro gH iz cX
     have sb:=fb.obj hb (.map gH iz)
     have:=cX.to
     exact H.set (o:=.smap (fy key v es)) hr dd sb ⟨gH,iz,sb.here,by simpa using this.1,by simpa using this.2⟩
    rcases Il l4 key hv clock 0 with ⟨e1,e2⟩ | ⟨u,j,e1,⟨en,e2,jP⟩,e3⟩
    ·obtain ⟨q1,q2⟩:=mk (ak.push { key:=.string key,val:=v',born:=clock }) (clock+1) (by simpa using e2)
     refine ⟨_,?_,q1,q2⟩
     simp [Instr.mapUpdate,run_underlying ht,run_getObj_map hb,run_checkKey _ eJ,run_findKey eJ key _ e1,k9 hb]
    ·obtain ⟨q1,q2⟩:=mk (ak.modify j λe=>{ e with key:=.string key,val:=v' }) clock (by simpa using e3)
     refine ⟨_,?_,q1,q2⟩
     have aA:ak[j]?=some en:=by simpa using e2
     have vI:Instr.sameBits 10000 (.string key) (.string key)=true:=by
      simp [Instr.sameBits,(MapKept.bytes_beq key key).2 rfl]
     have pr:(Instr.keyThatStays (((ak[j]?).map (·.key)).getD (.string key)) (.string key)).run P w=.ok (.string key) w:=by
      rw [aA]
      simp [Instr.keyThatStays,jP,vI]
     simp only [Instr.mapUpdate,Sem.run_bind,run_underlying ht,Result.andThen_ok,run_getObj_map hb,run_checkKey _ eJ,run_findKey eJ key _ e1]
     simp only [zero_add,pr,Result.andThen_ok,k9 hb]
   ·cases hi
 ·cases hi
theorem D2 (H:av P ρ h w) {t kt et:TypeId} {kd:IntKind} {m m' k k' v v':Value} {h':ad} (ht:P.underlying t=some (.map kt et)) (hk:mr P kt=some kd)
  (hi:vY kd h m k v=some h') (hm:af ρ m m') (gL:af ρ k k') (hv:af ρ v v'):∃w',(Instr.mapUpdate t m' k' v').run P w=.ok () w'/\av P ρ h' w'/\Tr ρ h w ρ h' w':=by
 unfold vY at hi
 split at hi
 ·rename_i i nN key
  rw [gL.dZ]
  cases hm with
  | map hr=>
   rename_i r
   split at hi
   ·rename_i fv es he
    split at hi
    ·rename_i fN
     obtain ⟨rfl,rfl⟩:=fN
     simp at hi;subst hi
     obtain ⟨ak,clock,hb,l4⟩:=H.AJ hr he
     have eJ:=BN hk
     have dd:aH h i:=.inr (.inr (.inr (.inl ⟨_,es,he⟩)))
     have mk:∀(gH:Array MapEntry) (iz:Nat),fK fv ρ (iX key v es) gH.toList->av P ρ (h.set i (.dY fv (iX key v es))) { w with heap:=w.heap.setIfInBounds r.aD (.map gH iz) }/\
       Tr ρ h w ρ (h.set i (.dY fv (iX key v es))) { w with heap:=w.heap.setIfInBounds r.aD (.map gH iz) }:=by
      intro gH iz cX
      have sb:=fb.obj hb (.map gH iz)
      have:=cX.to
      exact H.set (o:=.dY fv (iX key v es)) hr dd sb ⟨gH,iz,sb.here,by simpa using this.1,by simpa using this.2⟩
     rcases Im l4 key hv clock 0 with ⟨e1,e2⟩ | ⟨u,j,e1,⟨en,e2,jP⟩,e3⟩
     ·obtain ⟨q1,q2⟩:=mk (ak.push { key:=.int fv key,val:=v',born:=clock }) (clock+1) (by simpa using e2)
      refine ⟨_,?_,q1,q2⟩
      simp [Instr.mapUpdate,run_underlying ht,run_getObj_map hb,sI _ eJ,sJ eJ key _ e1,k9 hb]
     ·obtain ⟨q1,q2⟩:=mk (ak.modify j λe=>{ e with key:=.int fv key,val:=v' }) clock (by simpa using e3)
      refine ⟨_,?_,q1,q2⟩
      have aA:ak[j]?=some en:=by simpa using e2
      have vI:∀kd,Instr.sameBits 10000 (.int kd key) (.int kd key)=true:=by
       intro kd
       simp [Instr.sameBits]
      have pr:(Instr.keyThatStays (((ak[j]?).map (·.key)).getD (.int fv key)) (.int fv key)).run P w=.ok (.int fv key) w:=by
       rw [aA]
       simp [Instr.keyThatStays,jP,vI]
      simp only [Instr.mapUpdate,Sem.run_bind,run_underlying ht,Result.andThen_ok,run_getObj_map hb,sI _ eJ,sJ eJ key _ e1]
      simp only [zero_add,pr,Result.andThen_ok,k9 hb]
    ·cases hi
   ·cases hi
 ·cases hi
theorem Ny (H:av P ρ h w) (t:TypeId) (g:cg):∃w' ae v',(Instr.makeMap t none).run P w=.ok v' w'/\af ae (.map (some h.length)) v'/\av P ae (h++[.ct g 0 []]) w'/\Tr ρ h w ae (h++[.ct g 0 []]) w':=by
 have nb:=dm.alloc w (.map #[] 0)
 obtain ⟨q1,q2⟩:=H.new (h₀:=h) (o:=.ct g 0 []) (r:=⟨w.heap.size,0,0,P.cellsOf 0,0⟩) nb rfl rfl rfl (λ_=>.inl rfl) ⟨by simp,#[],nb.new,rfl,λj b k v hj=>by simp at hj⟩
 refine ⟨_,_,.map (some w.heap.size),?_,af.map (mT _ _ _),q1,q2⟩
 simp [Instr.makeMap]
theorem iw.set {g:cg} {c:Nat} {es:List (Nat×Value×Value)} {ak:Array MapEntry} (E:iw ρ g es ak) {k v v':Value} (hk:bU g k=true) (hv:af ρ v v'):
  (ij k es=none->iw ρ g (es++[(c,k,v)]) (ak.push { key:=k,val:=v',born:=c }))/\∀j b u,ij k es=some j->es[j]?=some (b,k,u)->iw ρ g (es.modify j λe=>(e.1,k,v)) (ak.modify j λe=>{ e with key:=k,val:=v' }):=by
 constructor
 ·intro hp
  have aP:∀e∈es,e.2.1≠k:=by
   rcases sA hk es with ⟨_,h2⟩ | ⟨j,e,h1,_⟩
   ·exact h2
   ·rw [hp] at h1;cases h1
  refine ⟨by simp [E.size],?_,?_⟩
  ·rw [List.map_append,List.nodup_append]
   refine ⟨E.nodup,by simp,?_⟩
   intro a ha b hb
   obtain ⟨e,he,rfl⟩:=List.mem_map.1 ha
   simp at hb
   subst hb
   exact aP e he
  ·intro j b k1 v1 hj
   by_cases hlt:j<es.length
   ·rw [getElem?_append_left hlt] at hj
    obtain ⟨g1,en,g2,g3⟩:=E.get j b k1 v1 hj
    exact ⟨g1,en,by rw [Array.getElem?_push_lt (by rw [E.size];exact hlt)];rw [getElem?_eq_getElem (by rw [E.size];exact hlt)] at g2;exact g2,g3⟩
   ·rw [List.getElem?_append_right (by omega)] at hj
    have kP:j=es.length:=by
     have:=(bu hj).1
     simp at this
     omega
    subst kP
    simp at hj
    obtain ⟨rfl,rfl,rfl⟩:=hj
    exact ⟨hk,{ key:=k,val:=v',born:=c },by rw [<-E.size];simp,rfl,rfl,hv⟩
 ·intro j b u hp hj
  have Jh:((es.modify j λe=>(e.1,k,v)).map λe=>e.2.1)=es.map λe=>e.2.1:=by
   apply List.ext_getElem?
   intro i
   simp only [List.getElem?_map,List.getElem?_modify]
   by_cases gh:j=i
   ·subst gh;simp [hj]
   ·simp [gh]
  refine ⟨by simp [E.size],by rw [Jh];exact E.nodup,?_⟩
  intro i b1 k1 v1 hi
  rw [List.getElem?_modify] at hi
  by_cases gh:j=i
  ·subst gh
   simp [hj] at hi
   obtain ⟨rfl,rfl,rfl⟩:=hi
   obtain ⟨g1,en,g2,g3,g4,_⟩:=E.get j b k u hj
   refine ⟨hk,{ en with key:=k,val:=v' },?_,rfl,g4,hv⟩
   rw [Array.getElem?_modify]
   simp [g2]
  ·simp [gh] at hi
   obtain ⟨g1,en,g2,g3⟩:=E.get i b1 k1 v1 hi
   refine ⟨g1,en,?_,g3⟩
   rw [Array.getElem?_modify]
   simp [gh,g2]
theorem D1 (H:av P ρ h w) {t:TypeId} {g:cg} {m m' k k' v v':Value} {h':ad} (hg:hU P t=some g)
  (hi:vX g h m k v=some h') (hm:af ρ m m') (gL:af ρ k k') (hv:af ρ v v'):∃w',(Instr.mapUpdate t m' k' v').run P w=.ok () w'/\av P ρ h' w'/\Tr ρ h w ρ h' w':=by
 obtain ⟨kt,et,ht,L⟩:=rj hg
 unfold vX at hi
 split at hi
 ·rename_i i
  cases hm with
  | map hr=>
   rename_i r
   split at hi
   ·rename_i g' c es he
    split at hi
    ·rename_i fN
     obtain ⟨rfl,hk,_⟩:=fN
     simp at hi;subst hi
     rw [gL.key hk]
     obtain ⟨ak,hb,E⟩:=H.oK hr he
     have dd:aH h i:=.inr (.inr (.inr (.inr (.inl ⟨_,_,es,he⟩))))
     obtain ⟨S1,S2⟩:=E.set (c:=c) hk hv
     rcases xz (w:=w) L E hk with ⟨⟨e1,_⟩,e2⟩ | ⟨j,b,u,en,e1,e2,e3,e4,e5,e6,e7⟩
     ·have E':=S1 e1
      have sb:=fb.obj hb (.map (ak.push { key:=k,val:=v',born:=c }) (c+1))
      have mf:mI c k v es=es++[(c,k,v)]:=by simp [mI,e1]
      have vh:lC c k es=c+1:=by simp [lC,e1]
      obtain ⟨q1,q2⟩:=H.set (o:=.ct g' (lC c k es) (mI c k v es)) hr dd sb (by rw [mf,vh];exact ⟨E'.nodup,_,sb.here,E'.size,E'.get⟩)
      refine ⟨_,?_,q1,q2⟩
      simp [Instr.mapUpdate,run_underlying ht,run_getObj_map hb,L.check w _ k hk,e2,k9 hb]
     ·have E':=S2 j b u e1 e2
      have sb:=fb.obj hb (.map (ak.modify j λe=>{ e with key:=k,val:=v' }) c)
      have mf:mI c k v es=es.modify j λe=>(e.1,k,v):=by simp [mI,e1]
      have vh:lC c k es=c:=by simp [lC,e1]
      obtain ⟨q1,q2⟩:=H.set (o:=.ct g' (lC c k es) (mI c k v es)) hr dd sb (by rw [mf,vh];exact ⟨E'.nodup,_,sb.here,E'.size,E'.get⟩)
      refine ⟨_,?_,q1,q2⟩
      have pr:(Instr.keyThatStays (((ak[j]?).map (·.key)).getD k) k).run P w=.ok k w:=by
       rw [e3]
       simp [e4,L.stays w k hk]
      simp only [Instr.mapUpdate,Sem.run_bind,run_underlying ht,Result.andThen_ok,run_getObj_map hb,L.check w _ k hk,e7]
      simp only [pr,Result.andThen_ok,k9 hb]
    ·cases hi
   ·cases hi
 ·cases hi
theorem iw.era {g:cg} {es:List (Nat×Value×Value)} {ak:Array MapEntry} (E:iw ρ g es ak) {j:Nat} (hj:j<es.length):iw ρ g (es.eraseIdx j) (ak.eraseIdxIfInBounds j):=by
 have hlt:j<ak.size:=by rw [E.size];exact hj
 have he:ak.eraseIdxIfInBounds j=ak.eraseIdx j hlt:=by simp [Array.eraseIdxIfInBounds,hlt]
 rw [he]
 refine ⟨by rw [Array.size_eraseIdx,List.length_eraseIdx,if_pos hj,E.size],?_,?_⟩
 ·refine List.Nodup.sublist ?_ E.nodup
  exact (List.eraseIdx_sublist _ _).map _
 ·intro i b k v hi
  rw [List.getElem?_eraseIdx] at hi
  split at hi
  ·rename_i gh
   obtain ⟨g1,en,g2,g3⟩:=E.get i b k v hi
   exact ⟨g1,en,by rw [Array.getElem?_eraseIdx,if_pos gh];exact g2,g3⟩
  ·rename_i gh
   obtain ⟨g1,en,g2,g3⟩:=E.get (i+1) b k v hi
   exact ⟨g1,en,by rw [Array.getElem?_eraseIdx,if_neg gh];exact g2,g3⟩
theorem Nk (H:av P ρ h w) {t ty:TypeId} {ts:Array TypeId} {g:cg} {m m' k k':Value} {h':ad} (Bv:ts[0]?=some t) (hg:hU P t=some g)
  (hi:vT g h m k=some h') (hm:af ρ m m') (gL:af ρ k k'):∃w',(Builtin.delete_ ts ty #[m',k']).run P w=.ok (.tuple #[]) w'/\av P ρ h' w'/\Tr ρ h w ρ h' w':=by
 obtain ⟨kt,et,ht,L⟩:=rj hg
 unfold vT at hi
 split at hi
 ·rename_i i
  cases hm with
  | map hr=>
   rename_i r
   split at hi
   ·rename_i g' c es he
    split at hi
    ·rename_i fN
     obtain ⟨rfl,hk⟩:=fN
     simp at hi;subst hi
     rw [gL.key hk]
     obtain ⟨ak,hb,E⟩:=H.oK hr he
     have dd:aH h i:=.inr (.inr (.inr (.inr (.inl ⟨_,_,es,he⟩))))
     rcases xz (w:=w) L E hk with ⟨⟨e1,_⟩,e2⟩ | ⟨j,b,u,en,e1,e2,e3,e4,e5,e6,e7⟩
     ·have sb:=fb.obj hb (.map ak c)
      have mf:lG k es=es:=by simp [lG,e1]
      obtain ⟨q1,q2⟩:=H.set (o:=.ct g' c (lG k es)) hr dd sb (by rw [mf];exact ⟨E.nodup,_,sb.here,E.size,E.get⟩)
      refine ⟨_,?_,q1,q2⟩
      simp [Builtin.delete_,Bv,run_underlying ht,run_getObj_map hb,L.check w _ k hk,e2,k9 hb]
     ·have E':=E.era (bu e2).1
      have sb:=fb.obj hb (.map (ak.eraseIdxIfInBounds j) c)
      have mf:lG k es=es.eraseIdx j:=by simp [lG,e1]
      obtain ⟨q1,q2⟩:=H.set (o:=.ct g' c (lG k es)) hr dd sb (by rw [mf];exact ⟨E'.nodup,_,sb.here,E'.size,E'.get⟩)
      refine ⟨_,?_,q1,q2⟩
      simp [Builtin.delete_,Bv,run_underlying ht,run_getObj_map hb,L.check w _ k hk,e7,k9 hb]
    ·cases hi
   ·cases hi
 ·cases hi
theorem NC (H:av P ρ h w) {t:TypeId} {g:cg} {x x' v:Value} {h':ad} (hg:hU P t=some g) (hi:vZ h x=some (v,h')) (hx:af ρ x x'):
  ∃w' ae v',(Instr.range t x').run P w=.ok v' w'/\af ae v v'/\av P ae h' w'/\Tr ρ h w ae h' w':=by
 obtain ⟨kt,et,ht,L⟩:=rj hg
 unfold vZ at hi
 split at hi
 ·rename_i i
  cases hx with
  | map hr=>
   rename_i r
   split at hi
   ·rename_i g' c es he
    simp at hi
    obtain ⟨rfl,rfl⟩:=hi
    obtain ⟨ak,hb,E⟩:=H.oK hr he
    have nb:=dm.alloc w (.mapIter (some r.aD) c #[] c)
    have aV:i≠h.length:=by
     have:=(bu he).1
     omega
    obtain ⟨q1,q2⟩:=H.new (h₀:=h) (o:=.iter i c [] c) (r:=⟨w.heap.size,0,0,P.cellsOf 0,0⟩) nb rfl rfl rfl (λ_=>.inl rfl)
     ⟨rfl,r,by simp [ai.add,aV,hr],nb.new⟩
    refine ⟨_,_,.pointer (some ⟨w.heap.size,0,none⟩),?_,?_,q1,q2⟩
    ·simp [Instr.range,run_underlying ht,run_getObj_map hb,newObj,Sem.run,Result.andThen]
    ·exact af.ptr (o:=0) (mT _ _ _)
   ·cases hi
 ·cases hi
theorem dD.val {v v':Value} {h':ad} {s:Result Next} {w':World} {ae:ai} (e:s=.ok (.value v') w') (a:af ae v v') (b:av P ae h' w') (c:Tr ρ h w ae h' w'):dD P ρ h w v h' s:=
 ⟨_,_,_,_,e,.inl rfl,a,b,c⟩
theorem dD.skip {h':ad} {s:Result Next} {w':World} (e:s=.ok .skip w') (b:av P ρ h' w') (c:Tr ρ h w ρ h' w'):dD P ρ h w undef h' s:=
 ⟨_,_,_,_,e,.inr ⟨rfl,rfl⟩,af.undef _,b,c⟩
theorem HU {o:Oper} {eo:fZ} {g g':Operand->Value} (hc:cN P o.op=some eo) (aj:o.op.operands.all df=true) (H:av P ρ h w)
  (hg:∀x,df x=true->af ρ (g x) (g' x)) {v:Value} {h':ad} (hi:bW eo g h=some (v,h')):dD P ρ h w v h' ((execOp g' o).run P w):=by
 cases ho:o.op with
 | store t a x=>
  rw [ho] at hc aj
  simp [Op.operands] at aj
  simp only [cN] at hc
  split at hc
  ·rename_i hk
   simp at hc;subst hc
   simp only [bW,map_eq_some_iff,Prod.mk.injEq] at hi
   obtain ⟨aS,hi,rfl,rfl⟩:=hi
   obtain ⟨w',q1,q2,q3⟩:=NG H hk hi (hg a aj.1) (hg x aj.2)
   exact dD.skip (w':=w') (by simp [execOp,ho,q1]) q2 q3
  ·cases hc
 | box e x=>
  rw [ho] at hc aj
  simp [Op.operands] at aj
  simp [cN] at hc;subst hc
  obtain ⟨w',ae,v',q1,q2,q3,q4⟩:=Ng H hi (hg x aj)
  exact dD.val (v':=v') (w':=w') (by simp [execOp,ho,q1]) q2 q3 q4
 | alloc e=>
  rw [ho] at hc
  simp only [cN,map_eq_some_iff] at hc
  obtain ⟨zs,hz,rfl⟩:=hc
  simp [bW] at hi
  obtain ⟨rfl,rfl⟩:=hi
  obtain ⟨w',ae,v',q1,q2,q3,q4⟩:=Nb H hz
  exact dD.val (v':=v') (w':=w') (by simp [execOp,ho,q1]) q2 q3 q4
 | buildSlice t n ps=>
  rw [ho] at hc aj
  simp only [cN] at hc
  simp only [Op.operands] at aj
  split at hc
  ·rename_i e ht
   split at hc
   ·rename_i zs hz
    split at hc
    ·rename_i hb
     simp at hc;subst hc
     have hq:∀q∈ps.toList,df q.2=true:=by
      intro q hm
      rw [Array.all_eq_true'] at aj
      exact aj q.2 (by simp;exact ⟨q.1,by simpa using hm⟩)
     have hp:=xn hg (λi=>(i*P.cellsOf e,P.cellsOf e)) ps.toList hq
     obtain ⟨w',ae,v',q1,q2,q3,q4⟩:=NA H ht hz hb.1 hb.2 (qs:=ps.map λ(i,x)=>(i,g' x)) (by simpa using hp) hi
     exact dD.val (v':=v') (w':=w') (by simp [execOp,ho,q1]) q2 q3 q4
    ·cases hc
   ·cases hc
  ·cases hc
 | makeSlice t l c=>
  rw [ho] at hc aj
  simp [Op.operands] at aj
  simp only [cN] at hc
  split at hc
  ·rename_i e ht
   split at hc
   ·rename_i zs hz
    simp at hc;subst hc
    obtain ⟨w',ae,v',q1,q2,q3,q4⟩:=Nw H ht hz hi (hg l aj.1) (hg c aj.2)
    exact dD.val (v':=v') (w':=w') (by simp [execOp,ho,q1]) q2 q3 q4
   ·cases hc
  ·cases hc
 | range t x=>
  rw [ho] at hc aj
  simp [Op.operands] at aj
  simp only [cN,map_eq_some_iff] at hc
  obtain ⟨g,dO,rfl⟩:=hc
  obtain ⟨w',ae,v',q1,q2,q3,q4⟩:=NC H dO hi (hg x aj)
  exact dD.val (v':=v') (w':=w') (by simp [execOp,ho,q1]) q2 q3 q4
 | next it b=>
  rw [ho] at hc
  cases b with
  | false=>simp [cN] at hc;subst hc;simp [bW] at hi
  | true=>simp [cN] at hc
 | makeMap t r=>
  rw [ho] at hc
  cases r with
  | none=>
   cases dO:hU P t with
   | some g=>
    simp only [cN,dO,Option.some.injEq] at hc
    subst hc
    simp [bW] at hi
    obtain ⟨rfl,rfl⟩:=hi
    obtain ⟨w',ae,v',q1,q2,q3,q4⟩:=Ny H t g
    exact dD.val (v':=v') (w':=w') (by simp [execOp,ho,q1]) q2 q3 q4
   | none=>
   have two:eo=.mkMap∨∃kd,eo=.sd kd:=by
    simp only [cN,dO] at hc
    split at hc
    ·split at hc
     ·simp at hc;exact .inr ⟨_,hc.symm⟩
     ·simp at hc;exact .inl hc.symm
    ·simp at hc;exact .inl hc.symm
   rcases two with rfl | ⟨kd,rfl⟩
   ·simp [bW] at hi
    obtain ⟨rfl,rfl⟩:=hi
    obtain ⟨w',ae,v',q1,q2,q3,q4⟩:=Nx H t
    exact dD.val (v':=v') (w':=w') (by simp [execOp,ho,q1]) q2 q3 q4
   ·simp [bW] at hi
    obtain ⟨rfl,rfl⟩:=hi
    obtain ⟨w',ae,v',q1,q2,q3,q4⟩:=Nz H t kd
    exact dD.val (v':=v') (w':=w') (by simp [execOp,ho,q1]) q2 q3 q4
  | some r=>simp [cN] at hc
 | mapUpdate t m k x=>
  rw [ho] at hc aj
  simp [Op.operands] at aj
  simp only [cN] at hc
  split at hc
  ·rename_i g dO
   simp at hc;subst hc
   simp only [bW,map_eq_some_iff,Prod.mk.injEq] at hi
   obtain ⟨aS,hi,rfl,rfl⟩:=hi
   obtain ⟨w',q1,q2,q3⟩:=D1 H dO hi (hg m aj.1) (hg k aj.2.1) (hg x aj.2.2)
   exact dD.skip (w':=w') (by simp [execOp,ho,q1]) q2 q3
  split at hc
  ·rename_i kt et ht
   split at hc
   ·rename_i hk
    simp at hc;subst hc
    simp only [bW,map_eq_some_iff,Prod.mk.injEq] at hi
    obtain ⟨aS,hi,rfl,rfl⟩:=hi
    obtain ⟨w',q1,q2,q3⟩:=D0 H ht hk hi (hg m aj.1) (hg k aj.2.1) (hg x aj.2.2)
    exact dD.skip (w':=w') (by simp [execOp,ho,q1]) q2 q3
   ·simp only [map_eq_some_iff] at hc
    obtain ⟨kd,fN,rfl⟩:=hc
    simp only [bW,map_eq_some_iff,Prod.mk.injEq] at hi
    obtain ⟨aS,hi,rfl,rfl⟩:=hi
    obtain ⟨w',q1,q2,q3⟩:=D2 H ht fN hi (hg m aj.1) (hg k aj.2.1) (hg x aj.2.2)
    exact dD.skip (w':=w') (by simp [execOp,ho,q1]) q2 q3
  ·cases hc
 | insert t m k x=>
  rw [ho] at hc aj
  simp [Op.operands] at aj
  simp only [cN] at hc
  split at hc
  ·rename_i g dO
   simp at hc;subst hc
   simp only [bW,map_eq_some_iff,Prod.mk.injEq] at hi
   obtain ⟨aS,hi,rfl,rfl⟩:=hi
   obtain ⟨w',q1,q2,q3⟩:=D1 H dO hi (hg m aj.1) (hg k aj.2.1) (hg x aj.2.2)
   exact dD.skip (w':=w') (by simp [execOp,ho,q1]) q2 q3
  split at hc
  ·rename_i kt et ht
   split at hc
   ·rename_i hk
    simp at hc;subst hc
    simp only [bW,map_eq_some_iff,Prod.mk.injEq] at hi
    obtain ⟨aS,hi,rfl,rfl⟩:=hi
    obtain ⟨w',q1,q2,q3⟩:=D0 H ht hk hi (hg m aj.1) (hg k aj.2.1) (hg x aj.2.2)
    exact dD.skip (w':=w') (by simp [execOp,ho,q1]) q2 q3
   ·simp only [map_eq_some_iff] at hc
    obtain ⟨kd,fN,rfl⟩:=hc
    simp only [bW,map_eq_some_iff,Prod.mk.injEq] at hi
    obtain ⟨aS,hi,rfl,rfl⟩:=hi
    obtain ⟨w',q1,q2,q3⟩:=D2 H ht fN hi (hg m aj.1) (hg k aj.2.1) (hg x aj.2.2)
    exact dD.skip (w':=w') (by simp [execOp,ho,q1]) q2 q3
  ·cases hc
 | call c=>
  rw [ho] at hc aj
  obtain ⟨callee,args,argTypes⟩:=c
  cases callee with
  | builtin b=>
   cases b with
   | append=>
    simp only [cN] at hc
    split at hc
    ·rename_i s x t t' hx mh
     obtain rfl:args=#[s,x]:=ext' hx
     obtain rfl:argTypes=#[t,t']:=ext' mh
     simp [Op.operands,Call.operands] at aj
     split at hc
     ·rename_i J4
      subst J4
      split at hc
      ·rename_i e ht
       split at hc
       ·rename_i zs hz
        simp at hc;subst hc
        obtain ⟨w',ae,v',q1,q2,q3,q4⟩:=Nc (type:=o.type) H ht hz hi (hg s aj.1) (hg x aj.2)
        exact dD.val (v':=v') (w':=w') (by simp [execOp,ho,resolve,invoke,builtin,q1]) q2 q3 q4
       ·cases hc
      ·cases hc
     ·cases hc
    ·cases hc
   | copy=>
    simp only [cN] at hc
    split at hc
    ·rename_i d x t t' hx mh
     obtain rfl:args=#[d,x]:=ext' hx
     obtain rfl:argTypes=#[t,t']:=ext' mh
     simp [Op.operands,Call.operands] at aj
     split at hc
     ·rename_i e ht
      split at hc
      ·rename_i hz
       simp at hc;subst hc
       obtain ⟨w',q1,q2,q3,q4⟩:=Nj (tt:=t') (type:=o.type) H ht hz hi (hg d aj.1) (hg x aj.2)
       exact dD.val (v':=v) (w':=w') (by simp [execOp,ho,resolve,invoke,builtin,q1]) q2 q3 q4
      ·cases hc
     ·cases hc
    ·cases hc
   | delete=>
    simp only [cN] at hc
    split at hc
    ·rename_i m k t hx mh
     obtain rfl:args=#[m,k]:=ext' hx
     simp [Op.operands,Call.operands] at aj
     simp only [map_eq_some_iff] at hc
     obtain ⟨g,dO,rfl⟩:=hc
     simp only [bW,map_eq_some_iff,Prod.mk.injEq] at hi
     obtain ⟨aS,hi,rfl,rfl⟩:=hi
     obtain ⟨w',q1,q2,q3⟩:=Nk (ty:=o.type) H mh dO hi (hg m aj.1) (hg k aj.2)
     exact dD.val (v':=.tuple #[]) (w':=w') (by simp [execOp,ho,resolve,invoke,builtin,q1]) (af.undef _) q2 q3
    ·cases hc
   | _=>simp [cN] at hc
  | _=>simp [cN] at hc
 | panic x=>rw [ho] at hc;simp [cN] at hc;subst hc;simp [bW] at hi
 | makeInterface t x=>rw [ho] at hc;simp [cN] at hc;subst hc;simp [bW] at hi
 | _=>rw [ho] at hc;simp [cN] at hc
end
end
section
inductive cL where
 | p (o:gE)
 | l (o:ga)
 | e (o:fZ)
 | call (f:FuncId) (args:List Operand)
 | ej (x:Operand) (args:List Operand)
structure cD where
 dst:Option Nat
 op:cL
 guard:Option (Nat×Bool)
structure eD where
 dst:Option Nat
 op:cL
structure aK where
 op:cD
 pre:Nat
structure dE where
 dst:Option Nat
 op:cL
 pre:Nat
inductive b9 where
 | skip
 | uE (l:List (Option (Nat×Bool)×List dE))
 | ops (g:Option (Nat×Bool)) (l:List eD)
 | seq (a b:b9)
 | cut (ls:List Nat) (c:b9)
 | cond (c:Operand) (a b:b9)
 | block (id:Nat) (c:b9)
 | loop (ks ls:List Nat) (c:b9)
 | exit (id:Nat)
 | ret
 | range (g:Operand) (ls:List Nat) (c:od)
abbrev FR (R:Option Nat):Fence:={ Fence.wide with round:=R }
def mQ (P:Program) (F:FuncId) (args:List Value) (h:ad) (v:Value) (h':ad):Prop:=
 ∀(ρ:ai) (args':Array Value) (w:World),aC ρ args args'.toList->av P ρ h w->
  Calls P F args' w λe w'=>∃v' ae,e=.returned v'/\af ae v v'/\av P ae h' w'/\Tr ρ h w ae h' w'
def h9 (P:Program) (F:FuncId) (args:List Value) (h:ad) (K:Value->ad->Prop):Prop:=∃v h',mQ P F args h v h'/\K v h'
theorem h9.mono {P:Program} {F:FuncId} {args:List Value} {h:ad} {K K':Value->ad->Prop} (hc:h9 P F args h K) (hk:∀v h',K v h'->K' v h'):h9 P F args h K':=
 let ⟨v,h',a,b⟩:=hc;⟨v,h',a,hk v h' b⟩
def tm (P:Program) (i:Nat) (args:List Value) (h:ad) (v:Value) (h':ad):Prop:=
 ∀(ρ:ai) (r:RI) (args':Array Value) (w:World),ρ i=some r->aC ρ args args'.toList->av P ρ h w->
  ∃fn tmps dM body,(Instr.yield r.aD args').run P w=.ok (.round r.aD fn tmps dM body) w/\
   RoundIn Fence.wide 0 P r.aD fn tmps dM body w λe w'=>∃v' ae,e=.returned v'/\af ae v v'/\av P ae h' w'/\Tr ρ h w ae h' w'
def pF (P:Program) (i:Nat) (args:List Value) (h:ad) (K:Value->ad->Prop):Prop:=∃v h',tm P i args h v h'/\K v h'
theorem pF.mono {P:Program} {i:Nat} {args:List Value} {h:ad} {K K':Value->ad->Prop} (hc:pF P i args h K) (hk:∀v h',K v h'->K' v h'):pF P i args h K':=
 let ⟨v,h',a,b⟩:=hc;⟨v,h',a,hk v h' b⟩
def gF (P:Program) (f:FuncId):Bool:=
 match P.funcs[f]? with
 | some fn=>fn.name != "runtime.NumGoroutine" &&fn.body.isSome
 | none=>false
def bH (o:Option Value) (K:Value->Prop):Prop:=
 match o with
 | some v=>K v
 | none=>False
def fx (o:Option (Value×ad)) (K:Value->ad->Prop):Prop:=
 match o with
 | some (v,h')=>K v h'
 | none=>False
def ji (P:Program) (x:Value) (args:List Value) (h:ad) (K:Value->ad->Prop):Prop:=
 match x with
 | .func (.func g) first cap=>gF P g=true/\h9 P g (first.toList++args++cap.toList) h K
 | .func (.yield i) first cap=>(first=#[]/\cap=#[])/\pF P i args h K
 | _=>False
def kZ (P:Program) (g:Value) (ls:List Nat) (vs:List Value) (c:od) (h:ad) (K:ad->Prop):Prop:=
 match g with
 | .func (.func F) first cap=>gF P F=true/\h9 P F (first.toList++[.func (.yield h.length) #[] #[]]++cap.toList) (h++[.loop c ls vs]) λ_ h'=>
   (∃c' B4 dh,h'[h.length]?=some (.loop c' B4 dh))/\K (h'.set h.length .dead)
 | _=>False
def aT (P:Program) (o:cL) (f:Nat->Value) (h:ad) (K:Value->ad->Prop):Prop:=
 match o with
 | .p o=>bH (cP o (ev f)) λv=>K v h
 | .l o=>bH (bM o (ev f) h) λv=>K v h
 | .e o=>fx (bW o (ev f) h) K
 | .call g args=>h9 P g (args.map (ev f)) h K
 | .ej x args=>ji P (ev f x) (args.map (ev f)) h K
def gT (v:Value) (b:Bool):Bool:=
 match v with
 | .bool c=>c==b
 | _=>false
def kf:Value->Bool
 | .complex _ _ _=>true
 | _=>false
def cB (g:Option (Nat×Bool)) (f:Nat->Value):Bool:=
 match g with
 | none=>true
 | some (s,b)=>gT (f s) b
def dN (v:Value) (b:Bool) (A B:Prop):Prop:=
 match v with
 | .bool c=>if (c==b)=true then A else B
 | .complex _ _ _=>False
 | _=>B
def ba (f:Nat->Value) (d:Option Nat) (v:Value):Nat->Value:=
 match d with
 | some d=>lg f d v
 | none=>f
def iQ (P:Program):List cD->((Nat->Value)->ad->Prop)->(Nat->Value)->ad->Prop
 | [],K,f,h=>K f h
 | o::os,K,f,h=>
  match o.guard with
  | none=>aT P o.op f h λv h'=>iQ P os K (ba f o.dst v) h'
  | some (s,b)=>dN (f s) b (aT P o.op f h λv h'=>iQ P os K (ba f o.dst v) h') (iQ P os K (ba f o.dst undef) h)
def kJ (P:Program):List eD->((Nat->Value)->ad->Prop)->(Nat->Value)->ad->Prop
 | [],K,f,h=>K f h
 | o::os,K,f,h=>aT P o.op f h λv h'=>kJ P os K (ba f o.dst v) h'
def p7:List eD->(Nat->Value)->(Nat->Value)
 | [],f=>f
 | o::os,f=>p7 os (ba f o.dst undef)
def ki (P:Program) (g:Option (Nat×Bool)) (l:List eD) (K:(Nat->Value)->ad->Prop) (f:Nat->Value) (h:ad):Prop:=
 match g with
 | none=>kJ P l K f h
 | some (s,b)=>dN (f s) b (kJ P l K f h) (K (p7 l f) h)
def cL.aW:cL->Bool
 | .p _=>false
 | .l _=>false
 | _=>true
abbrev br:=List (Nat×ga×(Nat->Value)×Value)
def kB (pre:Nat) (lo:ga) (f:Nat->Value) (v:Value):List (Nat×ad)->Prop
 | []=>True
 | (e,H)::r=>if pre.testBit e=true then kB pre lo f v r else bM lo (ev f) H=some v/\kB pre lo f v r
def ek (pre:Nat) (H:ad):br->Prop
 | []=>True
 | (j,lo,f,v)::r=>if pre.testBit j=true then ek pre H r else bM lo (ev f) H=some v/\ek pre H r
def dU (P:Program) (io:cL) (pre j:Nat) (ah:List (Nat×ad)) (ag:br) (f:Nat->Value) (h:ad) (next:List (Nat×ad)->br->Value->ad->Prop):Prop:=
 match io with
 | .p po=>bH (cP po (ev f)) λv=>next ah ag v h
 | .l lo=>bH (bM lo (ev f) h) λv=>kB pre lo f v ah/\next ah (ag++[(j,lo,f,v)]) v h
 | .e (.fl a)=>fx (bW (.fl a) (ev f) h) λv h'=>bH (fE h' v) λu=>ek pre h' ag/\next (ah++[(j,h)]) (ag++[(j,.obj (.const v),f,u)]) v h'
 | .e eo=>fx (bW eo (ev f) h) λv h'=>ek pre h' ag/\next (ah++[(j,h)]) ag v h'
 | .call g args=>h9 P g (args.map (ev f)) h λv h'=>ek pre h' ag/\next (ah++[(j,h)]) ag v h'
 | .ej x args=>ji P (ev f x) (args.map (ev f)) h λv h'=>ek pre h' ag/\next (ah++[(j,h)]) ag v h'
def kE (io:cL) (pre j:Nat) (ah:List (Nat×ad)) (ag:br) (h:ad) (next:List (Nat×ad)->br->Value->ad->Prop):Prop:=
 match io.aW with
 | false=>next ah ag undef h
 | true=>ek pre h ag/\next (ah++[(j,h)]) ag undef h
def dX (P:Program):List aK->Nat->List (Nat×ad)->br->((Nat->Value)->ad->Prop)->(Nat->Value)->ad->Prop
 | [],_,_,_,K,f,h=>K f h
 | o::os,j,ah,ag,K,f,h=>
  match o.op.guard with
  | none=>dU P o.op.op o.pre j ah ag f h λah ag v h'=>dX P os (j+1) ah ag K (ba f o.op.dst v) h'
  | some (s,b)=>
   dN (f s) b (dU P o.op.op o.pre j ah ag f h λah ag v h'=>dX P os (j+1) ah ag K (ba f o.op.dst v) h')
    (kE o.op.op o.pre j ah ag h λah ag v h'=>dX P os (j+1) ah ag K (ba f o.op.dst v) h')
def fM (P:Program):List dE->Nat->List (Nat×ad)->br->(List (Nat×ad)->br->(Nat->Value)->ad->Prop)->(Nat->Value)->ad->Prop
 | [],_,ah,ag,K,f,h=>K ah ag f h
 | o::os,j,ah,ag,K,f,h=>dU P o.op o.pre j ah ag f h λah ag v h'=>fM P os (j+1) ah ag K (ba f o.dst v) h'
def jW:List dE->Nat->List (Nat×ad)->br->(List (Nat×ad)->br->(Nat->Value)->ad->Prop)->(Nat->Value)->ad->Prop
 | [],_,ah,ag,K,f,h=>K ah ag f h
 | o::os,j,ah,ag,K,f,h=>kE o.op o.pre j ah ag h λah ag v h'=>jW os (j+1) ah ag K (ba f o.dst v) h'
def fL (P:Program):List (Option (Nat×Bool)×List dE)->Nat->List (Nat×ad)->br->((Nat->Value)->ad->Prop)->(Nat->Value)->ad->Prop
 | [],_,_,_,K,f,h=>K f h
 | (none,l)::gs,j,ah,ag,K,f,h=>fM P l j ah ag (λah ag f h=>fL P gs (j+l.length) ah ag K f h) f h
 | (some (s,b),l)::gs,j,ah,ag,K,f,h=>
  dN (f s) b (fM P l j ah ag (λah ag f h=>fL P gs (j+l.length) ah ag K f h) f h)
   (jW l j ah ag (λah ag f h=>fL P gs (j+l.length) ah ag K f h) f h)
def aJ (next:(Nat->Value)->ad->Prop) (K:Exit->(Nat->Value)->ad->Prop):Exit->(Nat->Value)->ad->Prop
 | .normal,f,h=>next f h
 | e,f,h=>K e f h
def bO (id:Nat) (K:Exit->(Nat->Value)->ad->Prop):Exit->(Nat->Value)->ad->Prop
 | .exit i,f,h=>if i=id then K .normal f h else K (.exit i) f h
 | e,f,h=>K e f h
def jj (c:Value) (a b:Prop):Prop:=
 match c with
 | .bool t=>if t=true then a else b
 | _=>False
def qZ (Q:(Nat->Value)->ad->Prop) (ls:List Nat) (vs:List Value) (h:ad):Prop:=Q (ey ls vs) h
def pG (init:List Value) (h:ad) (Q:(List Value->ad->Prop)->List Value->ad->Prop):Prop:=
 ∃(J:List Value->ad->Prop) (μ:List Value->ad->Nat),J init h/\∀(xs:List Value) (hx:ad),J xs hx->Q (λys hy=>J ys hy/\μ ys hy<μ xs hx) xs hx
abbrev ax:=Exit->(Nat->Value)->ad->Prop
noncomputable def cJ (P:Program) (c:b9):ax->(Nat->Value)->ad->Prop:=
 b9.rec (motive:=λ_=>ax->(Nat->Value)->ad->Prop)
  (λK f h=>K .normal f h)
  (λl K f h=>fL P l 0 [] [] (K .normal) f h)
  (λg l K f h=>ki P g l (K .normal) f h)
  (λ_ _ ia ib K f h=>ia (aJ (ib K) K) f h)
  (λls _ ic K f h=>qZ (ic K) ls (ls.map f) h)
  (λc _ _ ia ib K f h=>jj (ev f c) (ia K f h) (ib K f h))
  (λid _ ic K f h=>ic (bO id K) f h)
  (λks ls _ ic K f h=>pG (ls.map f) h λL xs hx=>ic (aJ (λf' aS=>ks.map f'=ks.map f/\L (ls.map f') aS) K) (ey (ks++ls) (ks.map f++xs)) hx)
  (λid K f h=>K (.exit id) f h)
  (λK f h=>K .ret f h)
  (λg ls c K f h=>kZ P (ev f g) ls (ls.map f) c h (K .normal f)) c
theorem BR {P:Program} {c:Operand} {a b:b9} {K:ax} {f:Nat->Value} {h:ad}:cJ P (.cond c a b) K f h=jj (ev f c) (cJ P a K f h) (cJ P b K f h):=rfl
def kC (P:Program) (op:Op):Option cL:=
 match cI P op with
 | some o=>some (.p o)
 | none=>match jO P op with
  | some o=>some (.l o)
  | none=>match cN P op with
   | some o=>some (.e o)
   | none=>match op with
    | .call { callee:=.value (.func f),args,.. }=>if gF P f then some (.call f args.toList) else none
    | .call { callee:=.value x,args,.. }=>some (.ej x args.toList)
    | _=>none
def qW (N:Nat) (ops:Array Oper):Option (Nat×Bool)->Option (Option (Nat×Bool))
 | none=>some none
 | some (j,b)=>match (ops[j]?).bind (·.dst) with
  | some s=>if s<N then some (some (s,b)) else none
  | none=>none
def lD (P:Program) (N:Nat) (ops:Array Oper) (o:Oper):Option cD:=
 if o.op.operands.all df&&o.dst.all (·<N) then
  match kC P o.op,qW N ops o.guard with
  | some op,some g=>some ⟨o.dst,op,g⟩
  | _,_=>none
 else none
def fc (P:Program) (N:Nat) (ops:Array Oper):List Oper->Option (List cD)
 | []=>some []
 | o::os=>match lD P N ops o,fc P N ops os with
  | some x,some xs=>some (x::xs)
  | _,_=>none
def gE.cp:gE->List Operand
 | .mv x | .un _ x | .conv _ x | .xJ x | .xp x | .wE x | .wF x | .uP _ x | .uW _ _ _ x | .wM x | .ext x _=>[x]
 | .pick c a b=>[c,a,b]
 | .bin _ x y | .rb _ x y | .re _ x y | .wh x y | .we _ _ _ x y | .tX _ x y | .tW _ _ x y=>[x,y]
 | .r6 _=>[]
 | .pI _ xs=>xs
 | .sQ x lo hi=>x::(lo.toList++hi.toList)
 | .sR _ _ x lo hi=>x::(lo.toList++hi.toList)
 | .fn _ first captured=>first++captured
 | .build _ parts=>parts.map (·.2.2)
 | .wg f x c=>[.func f,x,c]
def ga.cp:ga->List Operand
 | .load _ _ a=>[a]
 | .lz x=>[x]
 | .lookup _ _ m k=>[m,k]
 | .r9 _ _ _ m k=>[m,k]
 | .r8 _ _ _ m k=>[m,k]
 | .entry it=>[it]
 | .obj x=>[x]
def eS.cp:eS->List Operand
 | .alloc _ _=>[]
 | .fw _ _ _ parts=>parts.map (·.2.2)
 | .make _ _ _ l c=>[l,c]
 | .fU _=>[]
def fZ.cp:fZ->List Operand
 | .fl a=>a.cp
 | .store _ a v=>[a,v]
 | .box _ x=>[x]
 | .alloc _ _=>[]
 | .fw _ _ _ parts=>parts.map (·.2.2)
 | .make _ _ _ l c=>[l,c]
 | .app _ _ _ s x=>[s,x]
 | .mkMap=>[]
 | .sd _=>[]
 | .die=>[]
 | .fU _=>[]
 | .wJ _ m k v=>[m,k,v]
 | .uB _ m k=>[m,k]
 | .xr x=>[x]
 | .next it=>[it]
 | .wK _ m k v=>[m,k,v]
 | .wI m k v=>[m,k,v]
 | .copy d s=>[d,s]
def cL.cp:cL->List Operand
 | .p o=>o.cp
 | .l o=>o.cp
 | .e o=>o.cp
 | .call _ args=>args
 | .ej x args=>x::args
def tmpsOf:List Operand->List Nat
 | []=>[]
 | .tmp t::xs=>t::tmpsOf xs
 | _::xs=>tmpsOf xs
def cD.reads (o:cD):List Nat:=(match o.guard with | some (s,_)=>[s] | none=>[])++tmpsOf o.op.cp
def km (gn:List Nat):List Nat->Nat
 | []=>0
 | e::es=>(2^e ||| gn.getD e 0) ||| km gn es
def db:List (List Nat)->List Nat->List Nat
 | [],acc=>acc
 | es::r,acc=>db r (acc++[km acc es])
def jE (o:aK) (t:Nat):Bool:=o.op.dst==some t||o.op.reads.contains t
def nS (oj:aK) (j:Nat) (oi:aK) (i:Nat):Bool:=
 (i==j||(match oi.op.dst with
  | none=>true
  | some t=> !jE oj t||(if i<j then oj.pre.testBit i else oi.pre.testBit j)))&&
 (!(decide (i<j)&&oi.op.op.aW&&oj.op.op.aW)||oj.pre.testBit i)
def sv (l:List aK):Bool:=l.zipIdx.all λ(oj,j)=>l.zipIdx.all λ(oi,i)=>nS oj j oi i
def bB (o:Oper):List Nat:=o.after.toList.filterMap λe=>if Region.binds .any e then some e.on else none
def lA (ops:List Oper):Nat->Bool
 | i=>match ops with
  | []=>true
  | o::os=>(bB o).all (·<i)&&lA os (i+1)
def fI:List cD->List Nat->List aK
 | o::os,p::ps=>⟨o,p⟩::fI os ps
 | _,_=>[]
def ux (P:Program) (N:Nat) (ops:Array Oper):Option (List aK):=
 match fc P N ops ops.toList with
 | some ios=>
  if P.follows .mixedOrders&&lA ops.toList 0&&sv (fI ios (db (ops.toList.map bB) [])) then some (fI ios (db (ops.toList.map bB) [])) else none
 | none=>none
def cA (o:aK):Bool:=match o.op.op with | .e (.fl _)=>true | _=>false
def uX (l:List aK):List Nat:=
 l.zipIdx.filterMap λ(oi,i)=>
  if (match oi.op.op with | .e eo=>eo.sZ.isSome | _=>false)&&oi.op.guard.isNone&&(l.zipIdx.any λ(oj,j)=>j != i&&oj.op.op.aW&& !(oi.pre.testBit j)&& !(oj.pre.testBit i)) then some i else none
def oL (o:cD):cD:=
 match o.op,o.guard with
 | .e eo,none=>match eo.sZ with | some a=>⟨o.dst,.e (.fl a),none⟩ | none=>o
 | _,_=>o
def sa (pre:Nat):List Nat->Nat->Nat
 | [],_=>0
 | i::is,q=>(if pre.testBit i then 2^q else 0) ||| sa pre is (q+1)
def LF (l:List aK) (fl:List Nat):List Nat:=
 let BF:=λi=>fl.contains i||fl.any λa=>((l[a]?).map λo=>o.pre.testBit i).getD false
 (List.range l.length).filter BF++(List.range l.length).filter λi=> !BF i
def BT (l:List aK) (fl perm:List Nat):List aK:=
 perm.filterMap λi=>(l[i]?).map λo=>⟨if fl.contains i then oL o.op else o.op,sa o.pre perm 0⟩
def q6:List Nat->Bool
 | []=>true
 | x::xs=> !(xs.contains x)&&q6 xs
def nT (oj:aK) (j:Nat) (oi:aK) (i:Nat):Bool:=
 (i==j||(match oi.op.dst with
  | none=>true
  | some t=> !jE oj t||(if i<j then oj.pre.testBit i else oi.pre.testBit j)))&&
 (!(decide (i<j)&&oi.op.op.aW&&oj.op.op.aW&& !(cA oi)&& !(cA oj))||oj.pre.testBit i)
def js (l:List aK):Nat:=l.length-((l.reverse.takeWhile λo=> !(cA o)).length)
def okF (l:List aK) (perm:List Nat) (gn:List Nat):Bool:=
 l.length==gn.length&&perm.length==gn.length&&q6 perm&&perm.all (·<gn.length)&&
 (l.zipIdx.all λ(oj,j)=>l.zipIdx.all λ(oi,i)=>nT oj j oi i)&&
 (l.zipIdx.all λ(o,q)=>if q<js l then !(o.op.op.aW)||cA o else !(cA o))&&
 (l.zipIdx.all λ(o,q)=>(List.range gn.length).all λk=>o.pre.testBit k==(gn.getD (perm.getD q 0) 0).testBit (perm.getD k 0))&&
 (l.zipIdx.all λ(o,_)=> !(cA o)||o.op.guard.isNone)
def qV (P:Program) (N:Nat) (ops:Array Oper):Option (List aK×List Nat):=
 match fc P N ops ops.toList with
 | some ios=>
  let gn:=db (ops.toList.map bB) []
  let l:=fI ios gn
  let fl:=uX l
  let perm:=LF l fl
  let l':=BT l fl perm
  if P.follows .mixedOrders&&lA ops.toList 0&&okF l' perm gn then some (l',perm) else none
 | none=>none
def uy (P:Program) (N:Nat) (ops:Array Oper):Option (List aK):=
 match ux P N ops with
 | some l=>some l
 | none=>(qV P N ops).map Prod.fst
def jX:List cD->List (Option (Nat×Bool)×List eD)
 | []=>[]
 | o::os=>match jX os with
  | (g,l)::gs=>if o.guard=g then (g,⟨o.dst,o.op⟩::l)::gs else (o.guard,[⟨o.dst,o.op⟩])::(g,l)::gs
  | []=>[(o.guard,[⟨o.dst,o.op⟩])]
def leaves (g:Option (Nat×Bool)) (d:Option Nat):Bool:=
 match g with
 | some (s,_)=>d != some s
 | none=>true
def kD:List aK->List (Option (Nat×Bool)×List dE)
 | []=>[]
 | o::os=>match kD os with
  | (g,l)::gs=>if o.op.guard=g then (g,⟨o.op.dst,o.op.op,o.pre⟩::l)::gs else (o.op.guard,[⟨o.op.dst,o.op.op,o.pre⟩])::(g,l)::gs
  | []=>[(o.op.guard,[⟨o.op.dst,o.op.op,o.pre⟩])]
abbrev Hints:=List (List Nat)
def oG (ls:List Nat) (c:b9):b9:=
 match ls with
 | []=>c
 | l::ls=>.cut (l::ls) c
def k8:List (Option (Nat×Bool)×List eD)->Hints->b9×Hints
 | [],hs=>(.skip,hs)
 | (g,l)::gs,hs=>
  match gs,hs with
  | [],hs=>(.ops g l,hs)
  | gs,h::hs=>let r:=k8 gs hs;(.seq (.ops g l) (oG h r.1),r.2)
  | gs,[]=>let r:=k8 gs [];(.seq (.ops g l) r.1,r.2)
def cU (P:Program) (N:Nat):Code->Hints->Option (b9×Hints)
 | .skip,hs=>some (.skip,hs)
 | .region _ ops false,hs=>
  match fc P N ops ops.toList with
  | some l=>if l.all λo=>leaves o.guard o.dst then some (k8 (jX l) hs) else none
  | none=>some (.ops none [⟨none,.e .die⟩],hs)
 | .region _ ops true,hs=>
  match uy P N ops with
  | some l=>if l.all λo=>leaves o.op.guard o.op.dst then some (.uE (kD l),hs) else none
  | none=>none
 | .seq a b,hs=>
  match cU P N a hs with
  | some (x,h::hs)=>match cU P N b hs with
   | some (y,hs)=>some (.seq x (oG h y),hs)
   | none=>none
  | some (x,[])=>match cU P N b [] with
   | some (y,hs)=>some (.seq x y,hs)
   | none=>none
  | none=>none
 | .cond c a b,hs=>if df c then match cU P N a hs with
  | some (x,hs)=>match cU P N b hs with
   | some (y,hs)=>some (.cond c x y,hs)
   | none=>none
  | none=>none
  else none
 | .block id c,hs=>match cU P N c hs with
  | some (x,hs)=>some (.block id x,hs)
  | none=>none
 | .loop c,hs=>
  match hs with
  | ks::ls::hs=>match cU P N c hs with
   | some (x,hs)=>some (.loop ks ls x,hs)
   | none=>none
  | _=>none
 | .exit id,hs=>some (.exit id,hs)
 | .ret,hs=>some (.ret,hs)
 | .rangeFunc g ps dM body,hs=>
  match hs with
  | ls::hs=>if df g&&ps.all (·<N) then some (.range g ls ⟨N,ps,dM,body⟩,hs) else none
  | []=>none
 | _,_=>none
def ew:Code->Bool
 | .seq a b=>ew a&&ew b
 | .cond _ a b=>ew a&&ew b
 | .block _ c=>ew c
 | .loop c=>ew c
 | .rangeFunc .. =>false
 | _=>true
section
variable {P : Program} {N : Nat}
def lx (P:Program) (N B:Nat) (ρ:ai) (h:ad) (w:World) (e:Exit) (f':Nat->Value) (h':ad):Exit->Act->World->Prop:=
 λe' a' w'=>e'=e/\∃ae,bA P N B ae f' h' a' w'/\Tr ρ h w ae h' w'
def cr (P:Program) (N:Nat) (out:Bool) (c:Code) (f:Nat->Value) (h:ad) (e:Exit) (f':Nat->Value) (h':ad):Prop:=
 ∀R,(out=true->R=none)->∀B ρ a w,bA P N B ρ f h a w->c.wpIn (FR R) 0 P (lx P N B ρ h w e f' h') a w
def qB (P:Program) (N:Nat) (o:Oper) (f:Nat->Value) (h:ad) (v:Value) (h':ad):Prop:=
 ∀R B ρ a w,bA P N B ρ f h a w->∀(next:Act->World->Prop) (Q:Exit->Act->World->Prop),
  (∀ae v' w',af ae v v'->av P ae h' w'->Tr ρ h w ae h' w'->next (a.put o.dst v') w')->o.wpIn (FR R) 0 P a w next Q
theorem sK {o:Oper} (hn:∀c,o.op≠ .defer c) (R:Option Nat) (g:Operand->Value):o.semAt R g=execOp g o:=by
 cases R with
 | none=>rfl
 | some l=>exact Oper.semAt_some l g o hn
theorem xZ {R:Option Nat} {o:Oper} {a:Act} {w w':World} {next:Act->World->Prop} {Q:Exit->Act->World->Prop} {v:Value} (hn:∀c,o.op≠ .defer c)
  (he:(execOp a.eval o).run P w=.ok (.value v) w') (hk:next (a.put o.dst v) w'):o.wpIn (FR R) 0 P a w next Q:=by
 refine ⟨λ_ _=>trivial,?_⟩
 rw [sK hn,he,Oper.uponIn_value]
 exact hk
theorem Oj {R:Option Nat} {o:Oper} {a:Act} {w w':World} {next:Act->World->Prop} {Q:Exit->Act->World->Prop} (hn:∀c,o.op≠ .defer c)
  (he:(execOp a.eval o).run P w=.ok .skip w') (hk:next (a.put o.dst undef) w'):o.wpIn (FR R) 0 P a w next Q:=by
 refine ⟨λ_ _=>trivial,?_⟩
 rw [sK hn,he,Oper.uponIn_skip]
 exact hk
theorem Au {f:FuncId} {args:Array Value} {w:World} {K:Ending->World->Prop} (h:Calls P f args w K) (R:Option Nat) (n:Nat):CallsIn (FR R) n P f args w K:=by
 cases R with
 | none=>exact callsIn_wide.2 h
 | some l=>exact (callsIn_wide (n:=n)).2 h
theorem M3 {l:Nat} {f:FuncId} {tmps:Array Value} {dM body:Code} {w:World} {K:Ending->World->Prop} (h:RoundIn Fence.wide 0 P l f tmps dM body w K) (R:Option Nat):
  RoundIn (FR R) 0 P l f tmps dM body w K:=h
theorem uq {f:FuncId} (h:gF P f=true) (args:Array Value) (w:World):(callFunc f args).run P w=.ok (.enter f args) w:=by
 unfold gF at h
 split at h
 ·rename_i fn hf
  simp only [and_eq_true,bne_iff_ne] at h
  obtain ⟨h1,h2⟩:=h
  have h3:fn.body≠none:=by
   intro hb
   simp [hb] at h2
  simp [callFunc,hf,h1,h3]
 ·cases h
theorem CG {o:Oper} {f:Nat->Value} {h:ad} {g:FuncId} {args:List Value} {v:Value} {h':ad} (hc:mQ P g args h v h')
  (hd:∀c,o.op≠ .defer c)
  (he:∀B ρ a w,bA P N B ρ f h a w->∃args':Array Value,aC ρ args args'.toList/\(execOp a.eval o).run P w=.ok (.enter g args') w):qB P N o f h v h':=by
 intro r B ρ a w R next Q hn
 obtain ⟨args',hv,hr⟩:=he B ρ a w R
 refine ⟨λ_ _=>trivial,?_⟩
 rw [sK hd,hr,Oper.uponIn_enter]
 refine ⟨λh=>(by cases h),?_⟩
 refine (Au (hc ρ args' w hv R.heap) r _).mono ?_
 rintro e w' ⟨v',ae,rfl,h1,h2,h3⟩
 exact hn ae v' w' h1 h2 h3
theorem Lv {o:Oper} {f:Nat->Value} {h:ad} {i:Nat} {args:List Value} {v:Value} {h':ad} (hc:tm P i args h v h')
  (hd:∀c,o.op≠ .defer c)
  (he:∀B ρ a w,bA P N B ρ f h a w->∃(r:RI) (args':Array Value),ρ i=some r/\aC ρ args args'.toList/\(execOp a.eval o).run P w=(Instr.yield r.aD args').run P w):qB P N o f h v h':=by
 intro R' B ρ a w R next Q hn
 obtain ⟨r,args',hi,hv,hr⟩:=he B ρ a w R
 obtain ⟨fn,tmps,dM,body,e1,e2⟩:=hc ρ r args' w hi hv R.heap
 refine ⟨λ_ _=>trivial,?_⟩
 rw [sK hd,hr,e1,Oper.uponIn_round]
 refine ⟨λh=>(by cases h),?_⟩
 refine (M3 e2 R').mono ?_
 rintro e w' ⟨v',ae,rfl,h1,h2,h3⟩
 exact hn ae v' w' h1 h2 h3
theorem Hi {op:Op} {io:cL} (h:kC P op=some io):∀c,op≠ .defer c:=by
 rintro c rfl
 simp [kC,cI,jO,cN] at h
theorem Ax {op:Op} {io:cL} (h:kC P op=some io):(∃o,io=.p o/\cI P op=some o)∨(∃o,io=.l o/\jO P op=some o)∨(∃o,io=.e o/\cN P op=some o)∨
  (∃f args at_,op=.call ⟨.value (.func f),args,at_⟩/\gF P f=true/\io=.call f args.toList)∨(∃x args at_,op=.call ⟨.value x,args,at_⟩/\io=.ej x args.toList):=by
 unfold kC at h
 split at h
 ·rename_i o ho;simp at h;exact .inl ⟨o,h.symm,ho⟩
 ·split at h
  ·rename_i o ho;simp at h;exact .inr (.inl ⟨o,h.symm,ho⟩)
  ·split at h
   ·rename_i o ho;simp at h;exact .inr (.inr (.inl ⟨o,h.symm,ho⟩))
   ·split at h
    ·split at h
     ·rename_i hc;simp at h;exact .inr (.inr (.inr (.inl ⟨_,_,_,rfl,hc,h.symm⟩)))
     ·cases h
    ·simp at h;exact .inr (.inr (.inr (.inr ⟨_,_,_,rfl,h.symm⟩)))
    ·cases h
theorem nR {o:Oper} {io:cL} {f:Nat->Value} {h:ad} {K:Value->ad->Prop} (hc:kC P o.op=some io) (aj:o.op.operands.all df=true) (hs:aT P io f h K):
  ∃v h',qB P N o f h v h'/\K v h':=by
 have iI:=Hi hc
 rcases Ax hc with ⟨po,rfl,hp⟩ | ⟨lo,rfl,hl⟩ | ⟨eo,rfl,he⟩ | ⟨g,args,at_,ho,eU,rfl⟩ | ⟨x,args,at_,ho,rfl⟩
 ·simp only [aT,bH] at hs
  split at hs
  ·rename_i v hv
   refine ⟨v,h,?_,hs⟩
   intro _ B ρ a w R next Q hn
   obtain ⟨v',h1,h2⟩:=LL w hp aj R.heap.aL (λx hx=>R.ev hx) hv
   exact xZ iI h1 (hn ρ v' w h2 R.heap (Tr.refl R.heap))
  ·exact hs.elim
 ·simp only [aT,bH] at hs
  split at hs
  ·rename_i v hv
   refine ⟨v,h,?_,hs⟩
   intro _ B ρ a w R next Q hn
   obtain ⟨v',h1,h2⟩:=Lf hl aj R.heap (λx hx=>R.ev hx) hv
   exact xZ iI h1 (hn ρ v' w h2 R.heap (Tr.refl R.heap))
  ·exact hs.elim
 ·simp only [aT,fx] at hs
  split at hs
  ·rename_i v h' hv
   refine ⟨v,h',?_,hs⟩
   intro _ B ρ a w R next Q hn
   obtain ⟨nx,w',ae,v',e1,e2,e3,e4,e5⟩:=HU he aj R.heap (λx hx=>R.ev hx) hv
   rcases e2 with rfl | ⟨rfl,rfl⟩
   ·exact xZ iI e1 (hn ae v' w' e3 e4 e5)
   ·exact Oj iI e1 (hn ae undef w' e3 e4 e5)
  ·exact hs.elim
 ·obtain ⟨v,h',lV,hk⟩:=hs
  refine ⟨v,h',CG lV iI ?_,hk⟩
  intro B ρ a w R
  rw [ho] at aj
  simp [Op.operands,Call.operands] at aj
  refine ⟨args.map a.eval,by simpa using aC.my (λx hx=>R.ev hx) (xs:=args.toList) (by simpa using aj.2),?_⟩
  simp [execOp,ho,resolve,Act.eval,Deferred.ofValue,invoke,uq eU]
 ·simp only [aT,ji] at hs
  rw [ho] at aj
  simp [Op.operands,Call.operands] at aj
  split at hs
  ·rename_i g first cap hx
   obtain ⟨eU,v,h',lV,hk⟩:=hs
   refine ⟨v,h',CG lV iI ?_,hk⟩
   intro B ρ a w R
   have hr:=R.ev (x:=x) aj.1
   rw [hx] at hr
   generalize hy:a.eval x=y at hr
   cases hr with
   | func _ s1 s2 r1 r2=>
    rename_i uT ur
    refine ⟨uT++args.map a.eval++ur,?_,?_⟩
    ·have q1:=aC.la s1 r1
     have q2:=aC.my (λx hx=>R.ev hx) (xs:=args.toList) (by simpa using aj.2)
     have q3:=aC.la s2 r2
     simpa using (q1.append q2).append q3
    ·simp [execOp,ho,resolve,hy,Deferred.ofValue,invoke,uq eU]
  ·rename_i i first cap hx
   obtain ⟨⟨rfl,rfl⟩,v,h',lV,hk⟩:=hs
   refine ⟨v,h',Lv lV iI ?_,hk⟩
   intro B ρ a w R
   have hr:=R.ev (x:=x) aj.1
   rw [hx] at hr
   generalize hy:a.eval x=y at hr
   cases hr with
   | yield hi=>
    rename_i r
    refine ⟨r,args.map a.eval,hi,by simpa using aC.my (λx hx=>R.ev hx) (xs:=args.toList) (by simpa using aj.2),?_⟩
    simp [execOp,ho,resolve,hy,Deferred.ofValue,invoke]
  ·exact hs.elim
end
end
end Go.Sim
