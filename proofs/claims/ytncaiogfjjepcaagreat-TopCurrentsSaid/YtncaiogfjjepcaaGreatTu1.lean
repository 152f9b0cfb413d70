/-
  Part 1 of the texts behind a statement of this seat: Sim1, Sim2, Sim3, Sim4, Sim5, Sim6, Sim7, Sim8, Sim7d, Sim9, Sim9g, Sim10, Sim11, Sim12, Sim13.
-/
import Derived.WalkKit
import Derived.Laws.Append
import Derived.Laws.AppendOwn
import Derived.Laws.MakeOwn
import Derived.Laws.BytesString
import Derived.RangeFuncRecord
import Derived.Lib.Bytealg
import Derived.WalkSpells
import Derived.Laws.StructEq
import Derived.WideKeyArr
import Derived.MapKept
import Derived.Laws.CopyRow
import Derived.Laws.IdiomCopy
open Array (ext' getElem?_eq_getElem getElem?_toList)
open Bool (and_eq_true)
open List (all_eq_true getElem?_append_left getElem?_set_ne getElem?_take mem_of_getElem?)
open Nat (add_mul le_refl le_trans zero_add)
open Option (bind_eq_some_iff map_eq_some_iff)
namespace Go.Sim
section
theorem bX {p : Prop} [Decidable p] (h : ¬p) : decide p = false := decide_eq_false h
theorem dh {p : Prop} [Decidable p] (h : p) : decide p = true := decide_eq_true h
theorem cE {n m : Nat} (h : Nat.ble n m = true) : n <= m := Nat.le_of_ble_eq_true h
theorem cm {α : Type} {l : List α} {i : Nat} {a : α} (h : l[i]? = some a) : ∃ h : i < l.length, l[i] = a := List.getElem?_eq_some_iff.1 h
structure RI where
 cZ:Nat
 sh:Nat
 elem:TypeId
 esz:Nat
 size:Nat
abbrev bk:=Nat->Option RI
structure Ft where
 N:Nat
 ps:Array Tmp
 nt:Code
 body:Code
inductive jc where
 | int (k:IntKind)
 | str
 | ints (n:Nat) (k:IntKind)
 deriving DecidableEq
def nX (k:IntKind):Value->Bool
 | .int k' _=>decide (k'=k)
 | _=>false
def Rh (k:IntKind):Value->Bool
 | .int _ n=>decide (k.min<=n)&&decide (n<=k.max)
 | _=>false
def iF:jc->Value->Bool
 | .int k,v=>nX k v
 | .str,.string _=>true
 | .ints n k,.agg cs=>decide (cs.size=n)&&cs.toList.all λv=>nX k v&&Rh k v
 | _,_=>false
inductive az where
 | ro (e:TypeId) (xs:List Value)
 | arr (e:TypeId) (xs:List Value)
 | smap (es:List (ByteArray×Value))
 | mT (kd:IntKind) (es:List (Int×Value))
 | jQ (g:jc) (clock:Nat) (es:List (Nat×Value×Value))
 | iter (m J0:Nat) (seen:List Nat) (last:Nat)
 | loop (c:Ft) (ls:List Nat) (vs:List Value)
 | dead
abbrev ae:=List az
abbrev Yn:Value:=.complex .f32 0 0
def qy:List Nat->List Value->Nat->Value
 | l::ls,v::vs,j=>match Nat.beq j l with | true=>v | false=>qy ls vs j
 | _,_,_=>Yn
theorem aDl (l:Nat) (ls:List Nat) (v:Value) (vs:List Value) (j:Nat):qy (l::ls) (v::vs) j=if j=l then v else qy ls vs j:=by
 show (match Nat.beq j l with | true=>v | false=>qy ls vs j)=_
 split
 ·rename_i h;rw [if_pos (Nat.eq_of_beq_eq_true h)]
 ·rename_i h;rw [if_neg (Nat.ne_of_beq_eq_false h)]
def jv:Value->Bool
 | .agg _ | .tuple _ | .complex _ _ _=>false
 | _=>true
inductive aK (ρ:bk):Value->Value->Prop
 | bool (b:Bool):aK ρ (.bool b) (.bool b)
 | int (k:IntKind) (n:Int):aK ρ (.int k n) (.int k n)
 | string (s:ByteArray):aK ρ (.string s) (.string s)
 | tW:aK ρ (.pointer none) (.pointer none)
 | qw:aK ρ (.slice none 0 0) (.slice none 0 0)
 | tV:aK ρ (.map none) (.map none)
 | nilFunc:aK ρ .nilFunc .nilFunc
 | nilIface:aK ρ .nilIface .nilIface
 | ptr {i o:Nat} {r:RI}:ρ i=some r->aK ρ (.pointer (some ⟨i,o,none⟩)) (.pointer (some ⟨r.cZ,r.sh+o,none⟩))
 | slice {i o n m o' c':Nat} {r:RI}:ρ i=some r->(o'=r.sh+o∨(n=0/\0<o/\c'=0))->n<=c'->c'<=maxLen->o'+c'*r.esz<=r.size->(n<=m/\m<=c')->
   aK ρ (.slice (some ⟨i,o,some r.elem⟩) n m) (.slice (some ⟨r.cZ,o',none⟩) n c')
 | void (a:Addr):aK ρ (.slice none 0 1) (.slice (some a) 0 0)
 | map {i:Nat} {r:RI}:ρ i=some r->aK ρ (.map (some i)) (.map (some r.cZ))
 | func (f:FuncId) {xs ys iA mJ:Array Value}:xs.size=iA.size->ys.size=mJ.size->
   (∀(k:Nat) (x x':Value),xs[k]?=some x->iA[k]?=some x'->aK ρ x x')->
   (∀(k:Nat) (x x':Value),ys[k]?=some x->mJ[k]?=some x'->aK ρ x x')->aK ρ (.func (.func f) xs ys) (.func (.func f) iA mJ)
 | yield {i:Nat} {r:RI}:ρ i=some r->aK ρ (.func (.yield i) #[] #[]) (.func (.yield r.cZ) #[] #[])
 | agg {xs iA:Array Value}:xs.size=iA.size->(∀x∈xs.toList,jv x=true)->(∀(k:Nat) (x x':Value),xs[k]?=some x->iA[k]?=some x'->aK ρ x x')->aK ρ (.agg xs) (.agg iA)
 | any (v:Value):aK ρ (.complex .f32 0 0) v
 | tuple {xs iA:Array Value}:xs.size=iA.size->(∀(k:Nat) (x x':Value),xs[k]?=some x->iA[k]?=some x'->aK ρ x x')->aK ρ (.tuple xs) (.tuple iA)
def bk.le (ρ aN:bk):Prop:=∀i r,ρ i=some r->aN i=some r
theorem bk.le.refl (ρ:bk):ρ.le ρ:=λ_ _ h=>h
theorem bk.le.trans {a b c:bk} (h:a.le b) (k:b.le c):a.le c:=λi r e=>k i r (h i r e)
theorem aK.mono {ρ aN:bk} (h:ρ.le aN) {v v':Value} (hv:aK ρ v v'):aK aN v v':=by
 induction hv with
 | bool b=>exact .bool b
 | int k n=>exact .int k n
 | string s=>exact .string s
 | tW=>exact .tW
 | qw=>exact .qw
 | tV=>exact .tV
 | nilFunc=>exact .nilFunc
 | nilIface=>exact .nilIface
 | ptr hi=>exact .ptr (h _ _ hi)
 | slice hi a b c d ek=>exact .slice (h _ _ hi) a b c d ek
 | void a=>exact .void a
 | map hi=>exact .map (h _ _ hi)
 | func f a b _ _ Ra Rb=>exact .func f a b (λk x x' e e'=>Ra k x x' e e') (λk x x' e e'=>Rb k x x' e e')
 | yield hi=>exact .yield (h _ _ hi)
 | agg a b _ ih=>exact .agg a b (λk x x' e e'=>ih k x x' e e')
 | any v=>exact .any v
 | tuple a _ ih=>exact .tuple a (λk x x' e e'=>ih k x x' e e')
theorem aK.undef (ρ:bk):aK ρ undef undef:=.tuple rfl (λk x x' e e'=>by simp at e)
inductive dw (ρ:bk):List Value->List Value->Prop
 | nil:dw ρ [] []
 | cons {x y:Value} {xs ys:List Value}:aK ρ x y->dw ρ xs ys->dw ρ (x::xs) (y::ys)
theorem dw.mono {ρ aN:bk} (h:ρ.le aN) {xs ys:List Value} (hv:dw ρ xs ys):dw aN xs ys:=by
 induction hv with
 | nil=>exact .nil
 | cons a _ ih=>exact .cons (a.mono h) ih
theorem dw.length {ρ:bk} {xs ys:List Value} (hv:dw ρ xs ys):xs.length=ys.length:=by
 induction hv with
 | nil=>rfl
 | cons _ _ ih=>simp [ih]
theorem dw.get {ρ:bk} {xs ys:List Value} (hv:dw ρ xs ys):∀{k:Nat} {x:Value},xs[k]?=some x->∃y,ys[k]?=some y/\aK ρ x y:=by
 induction hv with
 | nil=>intro k x h;simp at h
 | cons a _ ih=>
  intro k x h
  cases k with
  | zero=>simp at h;subst h;exact ⟨_,by simp,a⟩
  | succ k=>simp at h;obtain ⟨y,hy,hr⟩:=ih h;exact ⟨y,by simpa using hy,hr⟩
theorem dw.append {ρ:bk} {xs ys iA mJ:List Value} (h:dw ρ xs ys) (h':dw ρ iA mJ):dw ρ (xs++iA) (ys++mJ):=by
 induction h with
 | nil=>exact h'
 | cons a _ ih=>exact .cons a ih
theorem dw.RR {ρ:bk}:∀{xs ys:List Value},xs.length=ys.length->(∀(k:Nat) (x y:Value),xs[k]?=some x->ys[k]?=some y->aK ρ x y)->dw ρ xs ys
 | [],[],_,_=>.nil
 | x::xs,y::ys,hl,h=>.cons (h 0 x y rfl rfl) (dw.RR (by simpa using hl) λk a b ha hb=>h (k+1) a b (by simpa using ha) (by simpa using hb))
theorem dw.take {ρ:bk} {xs ys:List Value} (h:dw ρ xs ys):∀n,dw ρ (xs.take n) (ys.take n):=by
 induction h with
 | nil=>intro n;simp;exact .nil
 | cons a _ ih=>intro n;cases n with
  | zero=>exact .nil
  | succ n=>exact .cons a (ih n)
theorem dw.drop {ρ:bk} {xs ys:List Value} (h:dw ρ xs ys):∀n,dw ρ (xs.drop n) (ys.drop n):=by
 induction h with
 | nil=>intro n;simp;exact .nil
 | cons a b ih=>intro n;cases n with
  | zero=>exact .cons a b
  | succ n=>exact ih n
theorem dw.zK {ρ:bk} {xs iA:Array Value} (hs:xs.size=iA.size) (h:∀(k:Nat) (x x':Value),xs[k]?=some x->iA[k]?=some x'->aK ρ x x'):dw ρ xs.toList iA.toList:=
 dw.RR (by simpa using hs) λk x y hx hy=>h k x y (by simpa using hx) (by simpa using hy)
theorem dw.ofList {ρ:bk} {xs iA:List Value} (h:dw ρ xs iA):∀(k:Nat) (x x':Value),xs.toArray[k]?=some x->iA.toArray[k]?=some x'->aK ρ x x':=by
 intro k x x' hx dM
 obtain ⟨y,hy,hr⟩:=h.get (k:=k) (x:=x) (by simpa using hx)
 simp at dM
 rw [hy] at dM
 cases dM
 exact hr
theorem aK.FB {ρ:bk} {xs iA:List Value} (h:dw ρ xs iA) (h1:∀x∈xs,jv x=true):aK ρ (.agg xs.toArray) (.agg iA.toArray):=.agg (by simpa using h.length) (by simpa using h1) h.ofList
theorem aK.vP {ρ:bk} {xs iA:List Value} (h:dw ρ xs iA):aK ρ (.tuple xs.toArray) (.tuple iA.toArray):=.tuple (by simpa using h.length) h.ofList
def dL (v:Value):List Value:=v.cells.toList
def fV:Value->Bool
 | .tuple _ | .complex _ _ _=>false
 | _=>true
theorem aK.cells {ρ:bk} {v v':Value} (h:aK ρ v v') (hn:fV v=true):dw ρ (dL v) (dL v'):=by
 cases h with
 | any _=>simp [fV] at hn
 | agg hs _ h=>exact dw.zK hs h
 | bool b=>exact .cons (.bool b) .nil
 | int k n=>exact .cons (.int k n) .nil
 | string s=>exact .cons (.string s) .nil
 | tW=>exact .cons .tW .nil
 | qw=>exact .cons .qw .nil
 | tV=>exact .cons .tV .nil
 | nilFunc=>exact .cons .nilFunc .nil
 | nilIface=>exact .cons .nilIface .nil
 | ptr hi=>exact .cons (.ptr hi) .nil
 | slice hi a b c d ek=>exact .cons (.slice hi a b c d ek) .nil
 | void a=>exact .cons (.void a) .nil
 | map hi=>exact .cons (.map hi) .nil
 | func f a b c d=>exact .cons (.func f a b c d) .nil
 | yield hi=>exact .cons (.yield hi) .nil
 | tuple a b=>simp [fV] at hn
def jH (h:ae) (i:Nat):Prop:=∃o,h[i]?=some o/\o≠ .dead
def fB (h:ae) (i:Nat):Prop:=(∃e xs,h[i]?=some (.arr e xs))∨(∃es,h[i]?=some (.smap es))∨(∃c ls vs,h[i]?=some (.loop c ls vs))∨(∃kd es,h[i]?=some (.mT kd es))∨(∃g c es,h[i]?=some (.jQ g c es))∨(∃m s n l,h[i]?=some (.iter m s n l))
theorem fB.live {h:ae} {i:Nat} (hm:fB h i):jH h i:=by
 rcases hm with ⟨e,xs,hm⟩ | ⟨es,hm⟩ | ⟨c,ls,vs,hm⟩ | ⟨kd,es,hm⟩ | ⟨g,c,es,hm⟩ | ⟨m,s,n,l,hm⟩
 ·exact ⟨_,hm,by simp⟩
 ·exact ⟨_,hm,by simp⟩
 ·exact ⟨_,hm,by simp⟩
 ·exact ⟨_,hm,by simp⟩
 ·exact ⟨_,hm,by simp⟩
 ·exact ⟨_,hm,by simp⟩
def ja (ρ:bk) (c:Array Value) (sh:Nat) (xs:List Value):Prop:=∀(j:Nat) (x:Value),xs[j]?=some x->jv x=true/\∃y,c[sh+j]?=some y/\aK ρ x y
theorem aK.zw {ρ:bk} {v v':Value} (h:aK ρ v v') (hc:jv v=true):v'.oneCell'=true:=by
 cases h <;> first | rfl | simp [jv] at hc
theorem dw.zw {ρ:bk} {xs ys:List Value} (h:dw ρ xs ys) (h1:∀x∈xs,jv x=true):∀y∈ys,y.oneCell'=true:=by
 induction h with
 | nil=>intro y hy;simp at hy
 | cons a _ ih=>
  intro y hy
  rcases List.mem_cons.1 hy with rfl | hy
  ·exact a.zw (h1 _ (by simp))
  ·exact ih (λx hx=>h1 x (by simp [hx])) y hy
theorem aK.Hj {ρ:bk} {v v':Value} (h:aK ρ v v') (ht:fV v=true):∀x∈dL v,jv x=true:=by
 cases h with
 | agg hs h1 h=>exact h1
 | tuple _ _=>simp [fV] at ht
 | any _=>simp [fV] at ht
 | _=>intro x hx;simp [dL,Value.cells] at hx;subst hx;rfl
theorem ja.of {ρ:bk} {xs:List Value} {c:Array Value} (h:dw ρ xs c.toList) (h1:∀x∈xs,jv x=true):ja ρ c 0 xs:=by
 intro j x hj
 obtain ⟨y,hy,hr⟩:=h.get hj
 exact ⟨h1 x (mem_of_getElem? hj),y,by simpa using hy,hr⟩
def oO (ρ:bk) (w:World) (r:RI):az->Prop
 | .ro e xs=>r.elem=e/\∃c t fr,w.heap[r.cZ]?=some (.cells c t fr)/\c.size=r.size/\ja ρ c r.sh xs
 | .arr e xs=>r.elem=e/\r.sh=0/\∃c,w.heap[r.cZ]?=some (.cells c e (0,0))/\c.size=r.size/\ja ρ c 0 xs
 | .smap es=>∃bn clock,w.heap[r.cZ]?=some (.map bn clock)/\bn.size=es.length/\
   ∀(j:Nat) (k:ByteArray) (v:Value),es[j]?=some (k,v)->∃en,bn[j]?=some en/\en.key=.string k/\aK ρ v en.val
 | .mT kd es=>∃bn clock,w.heap[r.cZ]?=some (.map bn clock)/\bn.size=es.length/\
   ∀(j:Nat) (k:Int) (v:Value),es[j]?=some (k,v)->∃en,bn[j]?=some en/\en.key=.int kd k/\aK ρ v en.val
 | .jQ g clock es=>(es.map λe=>e.2.1).Nodup/\∃bn,w.heap[r.cZ]?=some (.map bn clock)/\bn.size=es.length/\
   ∀(j b:Nat) (k v:Value),es[j]?=some (b,k,v)->iF g k=true/\∃en,bn[j]?=some en/\en.key=k/\en.born=b/\aK ρ v en.val
 | .iter m J0 seen last=>r.sh=0/\∃rm,ρ m=some rm/\w.heap[r.cZ]?=some (.mapIter (some rm.cZ) J0 seen.toArray last)
 | .loop c ls vs=>∃rec,w.heap[r.cZ]?=some (.loop rec)/\rec.state=.ready/\rec.pending=none/\rec.assign=c.nt/\rec.body=c.body/\rec.params=c.ps/\rec.tmps.size=c.N/\
   ∀t,aK ρ (qy ls vs t) (rec.tmps.getD t Go.undef)
 | .dead=>True
structure bN (P:Program) (ρ:bk) (h:ae) (w:World):Prop where
 obj:∀i r,ρ i=some r->∃o,h[i]?=some o/\oO ρ w r o
 inj:∀i j r s,ρ i=some r->ρ j=some s->r.cZ=s.cZ->fB h i->jH h j->i=j
 esz:∀i r,ρ i=some r->r.esz=P.cellsOf r.elem
theorem bN.lt {P:Program} {ρ:bk} {h:ae} {w:World} (H:bN P ρ h w) {i:Nat} {r:RI} (hi:ρ i=some r):i<h.length:=by
 obtain ⟨o,ho,_⟩:=H.obj i r hi
 exact (cm ho).1
structure Tr (ρ:bk) (h:ae) (w:World) (aN:bk) (h':ae) (w':World):Prop where
 ext:ρ.le aN
 len:h.length<=h'.length
 mo:∀i r,ρ i=some r->i<h.length
 kinds:∀i,i<h.length->fB h' i->fB h i
 fresh:∀i r,aN i=some r->ρ i=none->h.length<=i/\(w.heap.size<=r.cZ∨∃j s,ρ j=some s/\s.cZ=r.cZ/\fB h j)
 kN:w.heap.size<=w'.heap.size
 kY:∀b,b<w.heap.size->(∀j s,ρ j=some s->s.cZ=b->¬fB h j)->w'.heap[b]?=w.heap[b]?
 os:w'.os=w.os
 tape:w'.tape=w.tape
 output:w'.output=w.output
 drawn:w.drawn<=w'.drawn
theorem Tr.refl {P:Program} {ρ:bk} {h:ae} {w:World} (H:bN P ρ h w):Tr ρ h w ρ h w where
 ext:=.refl _
 len:=le_refl _
 mo:=λ_ _ hi=>H.lt hi
 kinds:=λ_ _ h=>h
 fresh:=λi r h1 h2=>by rw [h1] at h2;cases h2
 kN:=le_refl _
 kY:=λ_ _ _=>rfl
 os:=rfl
 tape:=rfl
 output:=rfl
 drawn:=le_refl _
theorem Tr.trans {Aa VJ aok:bk} {gO aft Ix:ae} {sN Ko an5:World} (a:Tr Aa gO sN VJ aft Ko) (b:Tr VJ aft Ko aok Ix an5):Tr Aa gO sN aok Ix an5 where
 ext:=a.ext.trans b.ext
 len:=le_trans a.len b.len
 mo:=a.mo
 kinds:=λi hi hm=>a.kinds i hi (b.kinds i (Nat.lt_of_lt_of_le hi a.len) hm)
 fresh:=by
  intro i r h3 h1
  cases h2:VJ i with
  | some r2=>
   have:=b.ext i r2 h2
   rw [h3] at this
   cases this
   exact a.fresh i r h2 h1
  | none=>
   obtain ⟨hl,hb⟩:=b.fresh i r h3 h2
   refine ⟨le_trans a.len hl,?_⟩
   rcases hb with hb | ⟨j,s,hj,hs,hm⟩
   ·exact .inl (le_trans a.kN hb)
   ·cases uR:Aa j with
    | some s'=>
     have:=a.ext j s' uR
     rw [hj] at this
     cases this
     exact .inr ⟨j,s,uR,hs,a.kinds j (a.mo j s uR) hm⟩
    | none=>
     obtain ⟨_,h⟩:=a.fresh j s hj uR
     rw [hs] at h
     rcases h with h | ⟨j',s',q1,q2,q3⟩
     ·exact .inl h
     ·exact .inr ⟨j',s',q1,q2,q3⟩
 kN:=le_trans a.kN b.kN
 kY:=by
  intro k hk jR
  rw [b.kY k (Nat.lt_of_lt_of_le hk a.kN) ?_,a.kY k hk jR]
  intro j s hj hs hm
  cases uR:Aa j with
  | some s'=>
   have:=a.ext j s' uR
   rw [hj] at this
   cases this
   exact jR j s uR hs (a.kinds j (a.mo j s uR) hm)
  | none=>
   obtain ⟨_,h⟩:=a.fresh j s hj uR
   rcases h with h | ⟨j',s',q1,q2,q3⟩
   ·omega
   ·exact jR j' s' q1 (by omega) q3
 os:=b.os.trans a.os
 tape:=b.tape.trans a.tape
 output:=b.output.trans a.output
 drawn:=le_trans a.drawn b.drawn
theorem bN.drew {P:Program} {ρ:bk} {h:ae} {w:World} (H:bN P ρ h w) (n:Nat):bN P ρ h { w with drawn:=n }:=
 ⟨λi r hi=>let ⟨o,ho,hr⟩:=H.obj i r hi;⟨o,ho,by cases o <;> exact hr⟩,H.inj,H.esz⟩
theorem Tr.drew {P:Program} {ρ:bk} {h:ae} {w:World} (H:bN P ρ h w) (n:Nat) (hn:w.drawn<=n):Tr ρ h w ρ h { w with drawn:=n } where
 ext:=.refl _
 len:=le_refl _
 mo:=λ_ _ hi=>H.lt hi
 kinds:=λ_ _ h=>h
 fresh:=λi r h1 h2=>by rw [h1] at h2;cases h2
 kN:=le_refl _
 kY:=λ_ _ _=>rfl
 os:=rfl
 tape:=rfl
 output:=rfl
 drawn:=hn
def mark (D:Nat):Deferred:={ target:=.collected D,args:=#[] }
def marks (B:Nat):List Deferred->World->Prop
 | [],w=>B<=w.heap.size
 | d::ds,w=>(∃D,d=mark D/\B<=D/\w.heap[D]?=some (.deferred (some []))/\∀d'∈ds,d'≠mark D)/\marks B ds w
theorem bN.RP {P:Program} {ρ:bk} {h:ae} {w:World} (H:bN P ρ h w) {D:Nat} {x:Option (List Deferred)} (hD:w.heap[D]?=some (.deferred x)) {j:Nat} {s:RI} (hj:ρ j=some s) (hs:s.cZ=D):¬jH h j:=by
 rintro ⟨o,ho,bY⟩
 obtain ⟨o',fU,hr⟩:=H.obj j s hj
 rw [ho] at fU
 cases fU
 subst hs
 cases o with
 | ro e xs=>obtain ⟨_,c,_,fr,h2,_⟩:=hr;rw [hD] at h2;cases h2
 | arr e xs=>obtain ⟨_,_,c,h2,_⟩:=hr;rw [hD] at h2;cases h2
 | smap es=>obtain ⟨bn,clock,h1,_⟩:=hr;rw [hD] at h1;cases h1
 | mT kd es=>obtain ⟨bn,clock,h1,_⟩:=hr;rw [hD] at h1;cases h1
 | jQ g c es=>obtain ⟨_,bn,h1,_⟩:=hr;rw [hD] at h1;cases h1
 | iter m s n l=>obtain ⟨_,rm,_,h1⟩:=hr;rw [hD] at h1;cases h1
 | loop c ls vs=>obtain ⟨rec,h1,_⟩:=hr;rw [hD] at h1;cases h1
 | dead=>exact bY rfl
theorem marks.tr {P:Program} {ρ aN:bk} {h h':ae} {w w':World} (H:bN P ρ h w) (T:Tr ρ h w aN h' w') {B:Nat}:∀{ds:List Deferred},marks B ds w->marks B ds w'
 | [],hb=>le_trans hb T.kN
 | d::ds,⟨⟨D,h1,h2,h3,h4⟩,h5⟩=>
  ⟨⟨D,h1,h2,by rw [T.kY D (Array.getElem?_eq_some_iff.1 h3).1 λj s hj hs hm=>H.RP h3 hj hs hm.live];exact h3,h4⟩,marks.tr H T h5⟩
theorem marks.lt {B:Nat} {w:World}:∀{ds:List Deferred},marks B ds w->∀d∈ds,∃D,d=mark D/\D<w.heap.size
 | [],_,d,hd=>by simp at hd
 | d::ds,⟨⟨D,h1,h2,h3,h4⟩,h5⟩,d',hd=>by
  rcases List.mem_cons.1 hd with rfl | hd
  ·exact ⟨D,h1,(Array.getElem?_eq_some_iff.1 h3).1⟩
  ·exact marks.lt h5 d' hd
theorem marks.base {B:Nat} {w:World}:∀{ds:List Deferred},marks B ds w->B<=w.heap.size
 | [],h=>h
 | _::_,h=>marks.base h.2
theorem aC3 {a b:Nat} (h:mark a=mark b):a=b:=by
 simp [mark] at h
 exact h
structure gL (P:Program) (N:Nat) (B:Nat) (ρ:bk) (f:Nat->Value) (h:ae) (a:Act) (w:World):Prop where
 size:a.tmps.size=N
 defers:marks B a.defers w
 tmp:∀t,aK ρ (f t) (a.tmps.getD t Go.undef)
 heap:bN P ρ h w
def zM (f:Nat->Value) (t:Nat) (v:Value):Nat->Value:=λj=>match Nat.beq j t with | true=>v | false=>f j
theorem uf (f:Nat->Value) (t:Nat) (v:Value):zM f t v=λj=>if j=t then v else f j:=by
 funext j
 unfold zM
 split
 ·rename_i h;rw [if_pos (Nat.eq_of_beq_eq_true h)]
 ·rename_i h;rw [if_neg (Nat.ne_of_beq_eq_false h)]
def ev (f:Nat->Value):Operand->Value
 | .tmp t=>f t
 | .const v=>v
 | .global g=>.pointer (some ⟨g,0,none⟩)
 | .func f=>.func (.func f) #[] #[]
def mM:Value->Bool
 | .bool _ | .int .. | .string _ | .nilFunc | .nilIface=>true
 | .pointer none | .map none=>true
 | .slice none 0 0=>true
 | _=>false
def kF:Operand->Bool
 | .tmp _=>true
 | .const v=>mM v
 | .global _=>false
 | .func _=>true
theorem mM.rel {ρ:bk} {v:Value} (h:mM v=true):aK ρ v v:=by
 unfold mM at h
 split at h
 ·exact .bool _
 ·exact .int _ _
 ·exact .string _
 ·exact .nilFunc
 ·exact .nilIface
 ·exact .tW
 ·exact .tV
 ·exact .qw
 ·simp at h
theorem gL.ev {P:Program} {N B:Nat} {ρ:bk} {f:Nat->Value} {h:ae} {a:Act} {w:World} (R:gL P N B ρ f h a w) {x:Operand} (hx:kF x=true):
  aK ρ (ev f x) (a.eval x):=by
 cases x with
 | tmp t=>exact R.tmp t
 | const v=>exact mM.rel hx
 | global g=>simp [kF] at hx
 | func g=>exact .func g rfl rfl (λk x x' e e'=>by simp at e) (λk x x' e e'=>by simp at e)
theorem gL.put {P:Program} {N B:Nat} {ρ aN:bk} {f:Nat->Value} {h h':ae} {a:Act} {w w':World} (R:gL P N B ρ f h a w) {d:Nat} (hd:d<N) {v v':Value}
  (T:Tr ρ h w aN h' w') (hv:aK aN v v') (H:bN P aN h' w'):gL P N B aN (zM f d v) h' (a.put (some d) v') w' where
 size:=by simp [Act.put,R.size]
 defers:=marks.tr R.heap T R.defers
 tmp:=by
  intro t
  simp only [uf]
  by_cases ht:t=d
  ·subst ht
   have:t<a.tmps.size:=by rw [R.size];exact hd
   simp [Act.put,Array.getD,this]
   exact hv
  ·rw [if_neg ht]
   have:=(R.tmp t).mono T.ext
   have e:((a.put (some d) v').tmps.getD t Go.undef)=a.tmps.getD t Go.undef:=by
    simp only [Act.put,Array.getD_eq_getD_getElem?,Array.getElem?_setIfInBounds]
    rw [if_neg (by omega)]
   rw [e]
   exact this
 heap:=H
theorem gL.mono {P:Program} {N B:Nat} {ρ aN:bk} {f:Nat->Value} {h h':ae} {a:Act} {w w':World} (R:gL P N B ρ f h a w) (T:Tr ρ h w aN h' w') (H:bN P aN h' w'):
  gL P N B aN f h' a w':=⟨R.size,marks.tr R.heap T R.defers,λt=>(R.tmp t).mono T.ext,H⟩
end
section
def S (l:List UInt8):Value:=.string ⟨l.toArray⟩
def bytes (s:ByteArray):List UInt8:=s.data.toList
theorem auD (l:List UInt8):bytes ⟨l.toArray⟩=l:=by simp [bytes]
theorem RH (s:ByteArray):(⟨(bytes s).toArray⟩:ByteArray)=s:=by simp [bytes]
inductive p7 where
 | mv (x:Operand)
 | pick (c a b:Operand)
 | bin (op:BinOp) (x y:Operand)
 | HI (neg:Bool) (x y:Operand)
 | HJ (neg:Bool) (x y:Operand)
 | HG (neg:Bool) (n:Nat) (x y:Operand)
 | un (op:UnOp) (x:Operand)
 | conv (k:IntKind) (x:Operand)
 | UY (x:Operand)
 | UE (x:Operand)
 | Rt (x:Operand)
 | Ru (x:Operand)
 | IK (n:Nat)
 | Dr (mx:Bool) (xs:List Operand)
 | Q8 (x i:Operand)
 | Q6 (n esz:Nat) (agg:Bool) (x i:Operand)
 | NH (esz:Nat) (x i:Operand)
 | NG (n esz:Nat) (x i:Operand)
 | Pt (off:Nat) (x:Operand)
 | Pz (agg:Bool) (off sz:Nat) (x:Operand)
 | J1 (x:Operand) (lo hi:Option Operand)
 | J2 (e:TypeId) (esz:Nat) (x:Operand) (lo hi:Option Operand)
 | RN (x:Operand)
 | fn (f:FuncId) (first captured:List Operand)
 | ext (x:Operand) (i:Nat)
 | build (zero:List Value) (parts:List (Nat×Nat×Operand))
 | Q7 (f:FuncId) (x c:Operand)
def jE (op:BinOp) (k:IntKind) (a b:Int):Option Value:=
 match op with
 | .add=>some (.int k (k.wrap (a+b)))
 | .sub=>some (.int k (k.wrap (a-b)))
 | .mul=>some (.int k (k.wrap (a*b)))
 | .quo=>if b=0 then none else some (.int k (k.wrap (a.tdiv b)))
 | .rem=>if b=0 then none else some (.int k (a.tmod b))
 | .and=>some (.int k (k.wrap (BitVec.ofInt k.bits a &&& BitVec.ofInt k.bits b).toNat))
 | .or=>some (.int k (k.wrap (BitVec.ofInt k.bits a ||| BitVec.ofInt k.bits b).toNat))
 | .xor=>some (.int k (k.wrap (BitVec.ofInt k.bits a^^^BitVec.ofInt k.bits b).toNat))
 | .andNot=>some (.int k (k.wrap (BitVec.ofInt k.bits a &&& ~~~BitVec.ofInt k.bits b).toNat))
 | .eql=>some (.bool (decide (a=b)))
 | .neq=>some (.bool (!decide (a=b)))
 | .lss=>some (.bool (decide (a<b)))
 | .leq=>some (.bool (decide (a<=b)))
 | .gtr=>some (.bool (decide (b<a)))
 | .geq=>some (.bool (decide (b<=a)))
 | _=>none
def rB (op:BinOp) (k:IntKind) (a b:Int):Option Value:=
 if b<0 then none else
 match op with
 | .shl=>some (.int k (k.wrap (a*2^(min b.toNat k.bits))))
 | .shr=>some (.int k (a.fdiv (2^(min b.toNat k.bits))))
 | _=>none
def yY (op:BinOp) (a b:List UInt8):Option Value:=
 match op with
 | .add=>if a.length+b.length<=maxLen then some (S (a++b)) else none
 | .eql=>some (.bool (decide (a=b)))
 | .neq=>some (.bool (!decide (a=b)))
 | .lss=>some (.bool (Op.bytesLess a b))
 | .leq=>some (.bool (Op.bytesLess a b||decide (a=b)))
 | .gtr=>some (.bool (!(Op.bytesLess a b||decide (a=b))))
 | .geq=>some (.bool (!Op.bytesLess a b))
 | _=>none
def aj (op:BinOp) (x y:Value):Option Value:=
 match x,y with
 | .int k a,.int k' b=>
  match op with
  | .shl=>rB .shl k a b
  | .shr=>rB .shr k a b
  | op=>if k=k' then jE op k a b else none
 | .string s,.string t=>yY op (bytes s) (bytes t)
 | _,_=>none
def tP (neg:Bool) (x y:Value):Option Value:=
 match x,y with
 | .bool a,.bool b=>some (.bool (if neg then !(a==b) else a==b))
 | _,_=>none
def wV:List Value->Option (List Int)
 | []=>some []
 | .int .i64 a::r=>(wV r).map (a::·)
 | _::_=>none
def A5 (neg:Bool) (n:Nat) (x y:Value):Option Value:=
 match x,y with
 | .agg xs,.agg ys=>
  match wV xs.toList,wV ys.toList with
  | some a,some b=>if a.length=n/\b.length=n then some (.bool (if neg then !decide (a=b) else decide (a=b))) else none
  | _,_=>none
 | _,_=>none
def HL (P:Program):Nat->List Field->Bool
 | _,[]=>true
 | i,f::fs=>f.name != "_" &&f.offset==i&&(match P.underlying f.type with | some (.int .i64)=>true | _=>false)&&HL P (i+1) fs
def J9 (P:Program) (t:TypeId) (fs:Array Field):Bool:=HL P 0 fs.toList&& !P.stoodInHeld t&& !P.eqGuardType P.depth t
def ID:Value->Option Bool
 | .slice none 0 0=>some true
 | .slice (some _) _ _=>some false
 | _=>none
def oG (neg:Bool) (x y:Value):Option Value:=
 match ID x,ID y with
 | some a,some b=>if a||b then some (.bool (if neg then !(a&&b) else a&&b)) else none
 | _,_=>none
def gE (op:UnOp) (x:Value):Option Value:=
 match op,x with
 | .neg,.int k n=>some (.int k (k.wrap (0-n)))
 | .not,.bool b=>some (.bool !b)
 | .xor,.int k n=>some (.int k (k.wrap (BitVec.ofInt k.bits (if k.signed then -1 else k.max)^^^BitVec.ofInt k.bits n).toNat))
 | _,_=>none
def dI (k:IntKind):Value->Option Value
 | .int _ n=>some (.int k (k.wrap n))
 | _=>none
def afw (x:Value):Option Value:=
 match x with
 | .int _ n=>some (.string (Utf8.encode n))
 | _=>none
def afx:Value->Option Value
 | .string s=>some (.string s)
 | _=>none
def wU:Value->Option Value
 | .string s=>some (.int .i64 (bytes s).length)
 | _=>none
def aT:Value->Option Value
 | .slice _ n _=>some (.int .i64 n)
 | _=>none
def max2 (mx:Bool):Value->Value->Option Value
 | .int k x,.int _ y=>some (.int k (if mx then (if y>x then y else x) else (if y<x then y else x)))
 | _,_=>none
def lI (mx:Bool):List Value->Option Value
 | .int k x::rest=>rest.foldlM (max2 mx) (.int k x)
 | _=>none
def tQ (x i:Value):Option Value:=
 match x,i with
 | .string s,.int _ i=>if 0<=i then ((bytes s)[i.toNat]?).map λb=>.int .u8 b.toNat else none
 | _,_=>none
def dS (agg:Bool) (off sz:Nat) (cs:List Value):Option Value:=
 if agg then (if off+sz<=cs.length then some (.agg ((cs.drop off).take sz).toArray) else none) else cs[off]?
def QY (n esz:Nat) (agg:Bool) (x i:Value):Option Value:=
 match x,i with
 | .agg cs,.int _ i=>if 0<=i/\i<n then dS agg (i.toNat*esz) esz cs.toList else none
 | _,_=>none
def aD (esz:Nat) (x i:Value):Option Value:=
 match x,i with
 | .slice (some ⟨id,o,some _⟩) n _,.int _ i=>if 0<=i/\i<n then some (.pointer (some ⟨id,o+i.toNat*esz,none⟩)) else none
 | _,_=>none
def QW (n esz:Nat) (x i:Value):Option Value:=
 match x,i with
 | .pointer (some ⟨id,o,none⟩),.int _ i=>if 0<=i/\i<n then some (.pointer (some ⟨id,o+i.toNat*esz,none⟩)) else none
 | _,_=>none
def aF (off:Nat) (x:Value):Option Value:=
 match x with
 | .pointer (some ⟨id,o,none⟩)=>some (.pointer (some ⟨id,o+off,none⟩))
 | _=>none
def yW (agg:Bool) (off sz:Nat) (x:Value):Option Value:=
 match x with
 | .agg cs=>dS agg off sz cs.toList
 | _=>none
def od:Value->Option Nat
 | .int _ i=>if 0<=i then some i.toNat else none
 | _=>none
def mE (n:Nat) (lo hi:Option Value):Option (Nat×Nat):=
 match (match lo with | none=>some 0 | some v=>od v),(match hi with | none=>some n | some v=>od v) with
 | some l,some h=>if l<=h/\h<=n then some (l,h) else none
 | _,_=>none
def yX (x:Value) (lo hi:Option Value):Option Value:=
 match x with
 | .string s=>(mE (bytes s).length lo hi).map λ(l,h)=>S (((bytes s).take h).drop l)
 | _=>none
def pc (esz:Nat) (lo:Option Value) (d c:Nat):Nat:=if esz=1 then d else match lo with | none=>c | some _=>d
@[simp] theorem aMm (lo : Option Value) (d c : Nat) : pc 1 lo d c = d := rfl
@[simp] theorem aMn (esz : Nat) (x : Value) (d c : Nat) : pc esz (some x) d c = d := by unfold pc; split <;> rfl
def fP (e:TypeId) (esz:Nat) (x:Value) (lo hi:Option Value):Option Value:=
 match x with
 | .slice none 0 0=>(mE 0 lo hi).map λ_=>.slice none 0 0
 | .slice (some ⟨id,o,some e'⟩) n c=>
  if e'=e then (mE n lo hi).map λ(l,h)=>.slice (some ⟨id,o+l*esz,some e⟩) (h-l) (pc esz lo (h-l) c) else none
 | _=>none
def eI (x:Value):Option Value:=
 match x with
 | .pointer (some a)=>some (.pointer (some a))
 | .func f a b=>some (.func f a b)
 | _=>none
def cW (i:Nat) (x:Value):Option Value:=
 match x with
 | .tuple vs=>vs[i]?
 | _=>none
def setAt (xs:List Value) (o:Nat) (vs:List Value):List Value:=xs.take o++vs++xs.drop (o+vs.length)
def jC:List Value->List (Nat×Nat×Value)->Option (List Value)
 | xs,[]=>some xs
 | xs,(off,size,v)::rest=>
  if fV v/\(dL v).length=size/\off+size<=xs.length then jC (setAt xs off (dL v)) rest else none
def eG (zero:List Value) (parts:List (Nat×Nat×Value)):Option Value:=(jC zero parts).map λcs=>.agg cs.toArray
def bu (c a b:Value):Option Value:=
 match c with
 | .bool t=>some (if t then a else b)
 | _=>none
def afv (x c:Value):Option Value:=
 match x,c with
 | .string s,.int .u8 c=>some (.int .i64 (Lib.indexByte (bytes s) c.toNat.toUInt8))
 | _,_=>none
def kn (o:p7) (g:Operand->Value):Option Value:=
 match o with
 | .mv x=>some (g x)
 | .pick c a b=>bu (g c) (g a) (g b)
 | .bin op x y=>aj op (g x) (g y)
 | .HI neg x y=>tP neg (g x) (g y)
 | .HG neg n x y=>A5 neg n (g x) (g y)
 | .HJ neg x y=>oG neg (g x) (g y)
 | .un op x=>gE op (g x)
 | .conv k x=>dI k (g x)
 | .UY x=>afx (g x)
 | .UE x=>afw (g x)
 | .Rt x=>wU (g x)
 | .Ru x=>aT (g x)
 | .IK n=>some (.int .i64 n)
 | .Dr mx xs=>lI mx (xs.map g)
 | .Q8 x i=>tQ (g x) (g i)
 | .Q6 n esz agg x i=>QY n esz agg (g x) (g i)
 | .NH esz x i=>aD esz (g x) (g i)
 | .NG n esz x i=>QW n esz (g x) (g i)
 | .Pt off x=>aF off (g x)
 | .Pz agg off sz x=>yW agg off sz (g x)
 | .J1 x lo hi=>yX (g x) (lo.map g) (hi.map g)
 | .J2 e esz x lo hi=>fP e esz (g x) (lo.map g) (hi.map g)
 | .RN x=>eI (g x)
 | .fn f first captured=>some (.func (.func f) (first.map g).toArray (captured.map g).toArray)
 | .ext x i=>cW i (g x)
 | .build zero parts=>eG zero (parts.map λ(o,s,x)=>(o,s,g x))
 | .Q7 f x c=>
  match g (.func f) with
  | .func (.func f') a b=>if f'=f/\a.size=0/\b.size=0 then afv (g x) (g c) else none
  | _=>none
def oJ:TypeDesc->Bool
 | .struct _ | .array _ _=>true
 | _=>false
def Ar (v:Value):Bool:=mM v&&jv v
def zeroOf (P:Program) (t:TypeId):Option (List Value):=
 match P.info? t with
 | some i=>match i.zero with
  | some z=>if fV z&&(dL z).all Ar&&(dL z).length==i.size then some (dL z) else none
  | none=>none
 | none=>none
def placesOf (P:Program) (fs:Array Field):List (Nat×Nat):=fs.toList.map λf=>(f.offset,P.cellsOf f.type)
def jF (P:Program) (t:TypeId):Bool:=(P.info? t).isSome
def Pr (P:Program) (f:FuncId):Bool:=
 match P.funcs[f]? with
 | some fn=>fn.body.isNone&&fn.name== "internal/bytealg.IndexByteString" &&(Extern.findNext fn).isNone
 | none=>false
def jM (P:Program):Op->Option p7
 | .move x | .assign x=>some (.mv x)
 | .pick c a b=>some (.pick c a b)
 | .binOp op t x y _=>
  match op,P.underlying t with
  | .eql,some (.struct fs)=>if J9 P t fs then some (.HG false fs.size x y) else some (.bin .eql x y)
  | .neq,some (.struct fs)=>if J9 P t fs then some (.HG true fs.size x y) else some (.bin .neq x y)
  | .eql,some .bool=>some (.HI false x y)
  | .neq,some .bool=>some (.HI true x y)
  | .eql,some (.slice _)=>some (.HJ false x y)
  | .neq,some (.slice _)=>some (.HJ true x y)
  | op,_=>some (.bin op x y)
 | .unOp op _ x=>some (.un op x)
 | .convert s d x=>
  match P.underlying s,P.underlying d with
  | some (.int _),some (.int k)=>some (.conv k x)
  | some .string,some .string=>some (.UY x)
  | some (.int _),some .string=>some (.UE x)
  | _,_=>none
 | .call { callee:=.builtin .len,args,argTypes }=>
  match args.toList,argTypes.toList with
  | [x],[t]=>
   match P.underlying t with
   | some .string=>some (.Rt x)
   | some (.slice _)=>some (.Ru x)
   | some (.array n _)=>some (.IK n)
   | _=>none
  | _,_=>none
 | .call { callee:=.builtin .min,args,argTypes:=_ }=>some (.Dr false args.toList)
 | .call { callee:=.builtin .max,args,argTypes:=_ }=>some (.Dr true args.toList)
 | .call { callee:=.value (.func f),args,argTypes:=_ }=>
  match args.toList with
  | [x,c]=>if Pr P f then some (.Q7 f x c) else none
  | _=>none
 | .index t x i=>
  match P.underlying t with
  | some .string=>some (.Q8 x i)
  | some (.array n e)=>
   match P.underlying e with
   | some d=>if jF P e&&(oJ d||P.cellsOf e==1) then some (.Q6 n (P.cellsOf e) (oJ d) x i) else none
   | none=>none
  | _=>none
 | .indexAddr t x i=>
  match P.underlying t with
  | some (.slice e)=>if jF P e then some (.NH (P.cellsOf e) x i) else none
  | some (.array n e)=>if jF P e then some (.NG n (P.cellsOf e) x i) else none
  | _=>none
 | .fieldAddr t x f=>
  match P.underlying t with
  | some (.struct fs)=>
   match fs[f]? with
   | some fd=>if jF P fd.type&&P.cellsOf fd.type != 0 then some (.Pt fd.offset x) else none
   | none=>none
  | _=>none
 | .field t x f=>
  match P.underlying t with
  | some (.struct fs)=>
   match fs[f]? with
   | some fd=>
    match P.underlying fd.type with
    | some d=>if jF P fd.type&&(oJ d||P.cellsOf fd.type==1) then some (.Pz (oJ d) fd.offset (P.cellsOf fd.type) x) else none
    | none=>none
   | none=>none
  | _=>none
 | .slice t x lo hi mx=>
  match P.underlying t,mx with
  | some .string,none=>some (.J1 x lo hi)
  | some (.slice e),none=>if jF P e then some (.J2 e (P.cellsOf e) x lo hi) else none
  | _,_=>none
 | .nilCheck x=>some (.RN x)
 | .makeFunc (.func f) first captured=>some (.fn f first.toList captured.toList)
 | .extract x i=>some (.ext x i)
 | .build t parts=>
  match P.underlying t,zeroOf P t with
  | some (.struct fs),some z=>
   if fs.all λf=>jF P f.type then
    match parts.toList.mapM (m:=Option) λ(i,x)=>(placesOf P fs)[i]? |>.map λ(o,s)=>(o,s,x) with
    | some ps=>some (.build z ps)
    | none=>none
   else none
  | some (.array _ e),some z=>if jF P e then some (.build z (parts.toList.map λ(i,x)=>(i*P.cellsOf e,P.cellsOf e,x))) else none
  | _,_=>none
 | _=>none
end
section
theorem aK.kT {ρ:bk} {k:IntKind} {n:Int} {v:Value} (h:aK ρ (.int k n) v):v=.int k n:=by cases h;rfl
theorem aK.Aq {ρ:bk} {b:Bool} {v:Value} (h:aK ρ (.bool b) v):v=.bool b:=by cases h;rfl
theorem aK.vO {ρ:bk} {s:ByteArray} {v:Value} (h:aK ρ (.string s) v):v=.string s:=by cases h;rfl
theorem aK.S (ρ:bk) (l:List UInt8):aK ρ (S l) (S l):=.string _
theorem toList_eq (s:ByteArray):s.toList=bytes s:=by
 obtain ⟨⟨l⟩⟩:=s
 exact ByteArray.toList_mk l
theorem auB (s t:ByteArray):(s.toList==t.toList)=decide (bytes s=bytes t):=by
 rw [toList_eq,toList_eq]
 by_cases h:bytes s=bytes t <;> simp [h]
theorem DW (s:ByteArray):s.size=(bytes s).length:=by simp [bytes]
theorem aul (s t:ByteArray):s++t=⟨(bytes s++bytes t).toArray⟩:=by
 apply ByteArray.ext
 apply ext'
 simp [bytes]
section
variable (P : Program) (w : World)
theorem aJU {op:BinOp} {k:IntKind} {a b:Int} {v:Value} (t:TypeId) (eO:op≠ .shl) (aBh:op≠ .shr) (h:jE op k a b=some v):
  (binOp op t (.int k a) (.int k b)).run P w=.ok v w:=by
 cases op <;> simp [jE] at h <;> simp at eO aBh <;> (first | subst h | (obtain ⟨hb,h⟩:=h;subst h)) <;>
  simp_all [binOp,Op.intArith,Op.intDiv,Op.intBits,Op.intCmp]
 ·rw [Bool.eq_iff_iff];simp
 ·rw [Bool.eq_iff_iff];simp
theorem anD {op:BinOp} {k k':IntKind} {a b:Int} {v:Value} (t:TypeId) (eO:op=.shl∨op=.shr) (h:rB op k a b=some v):
  (binOp op t (.int k a) (.int k' b)).run P w=.ok v w:=by
 unfold rB at h
 by_cases hb:b<0
 ·rw [if_pos hb] at h;cases h
 ·rw [if_neg hb] at h
  rcases eO with rfl | rfl <;> simp at h <;> subst h <;> simp [binOp,Op.shift,hb]
theorem aJ8 {op:BinOp} {s s':ByteArray} {v:Value} (t:TypeId) (h:yY op (bytes s) (bytes s')=some v):
  (binOp op t (.string s) (.string s')).run P w=.ok v w:=by
 have e1:=auB s s'
 have hl:IntKind.i64.max=9223372036854775807:=rfl
 cases op <;> simp [yY] at h <;> (first | subst h | (obtain ⟨hb,h⟩:=h;subst h)) <;> simp only [binOp,Op.stringOp]
 all_goals first
  | (rw [e1];simp [toList_eq];done)
  | (simp [toList_eq];done)
  | skip
 ·unfold maxLen at hb
  rw [if_neg (by rw [hl,DW,DW];omega)]
  rw [aul]
  rfl
theorem aJA (op:BinOp) (t:TypeId) (x y:Operand) (k k':IntKind) (a b:Int):(eqGuard op t x y (.int k a) (.int k' b)).run P w=.ok () w:=by
 unfold eqGuard
 cases op <;> simp
theorem aJC (op:BinOp) (t:TypeId) (x y:Operand) (a b:ByteArray):(eqGuard op t x y (.string a) (.string b)).run P w=.ok () w:=by
 unfold eqGuard
 cases op <;> simp
theorem aJz (op:BinOp) (t:TypeId) (x y:Operand) (a b:Bool):(eqGuard op t x y (.bool a) (.bool b)).run P w=.ok () w:=by
 unfold eqGuard
 cases op <;> simp
theorem aJB (op:BinOp) (t:TypeId) (x y:Operand) (a b:Option Addr) (n m c d:Nat):(eqGuard op t x y (.slice a n c) (.slice b m d)).run P w=.ok () w:=by
 unfold eqGuard
 cases op <;> simp
theorem UM {ρ:bk} {op:BinOp} {x y x' y' v:Value} (t:TypeId) (ox oy:Operand) (h:aj op x y=some v) (hx:aK ρ x x') (hy:aK ρ y y'):
  (do eqGuard op t ox oy x' y';binOp op t x' y':Sem Value).run P w=.ok v w/\aK ρ v v:=by
 unfold aj at h
 split at h
 ·rename_i k a k' b
  rw [hx.kT,hy.kT]
  have hv:(binOp op t (.int k a) (.int k' b)).run P w=.ok v w/\aK ρ v v:=by
   split at h
   ·refine ⟨anD P w t (.inl rfl) h,?_⟩
    unfold rB at h
    split at h <;> simp at h
    subst h;exact .int _ _
   ·refine ⟨anD P w t (.inr rfl) h,?_⟩
    unfold rB at h
    split at h <;> simp at h
    subst h;exact .int _ _
   ·rename_i h1 h2
    split at h
    ·rename_i hk
     subst hk
     refine ⟨aJU P w t h1 h2 h,?_⟩
     cases op <;> simp [jE] at h <;> (first | subst h | (obtain ⟨_,h⟩:=h;subst h)) <;> first | exact .int _ _ | exact .bool _
    ·cases h
  simp only [Sem.run_bind,aJA,Result.andThen_ok]
  exact hv
 ·rename_i s s'
  rw [hx.vO,hy.vO]
  simp only [Sem.run_bind,aJC,Result.andThen_ok]
  refine ⟨aJ8 P w t h,?_⟩
  cases op <;> simp [yY] at h <;> (first | subst h | (obtain ⟨_,h⟩:=h;subst h)) <;> first | exact .string _ | exact .bool _
 ·cases h
theorem anv {ρ:bk} {neg:Bool} {op:BinOp} {x y x' y' v:Value} (t:TypeId) (ox oy:Operand) (ht:P.underlying t=some .bool) (eO:op=if neg then .neq else .eql)
  (h:tP neg x y=some v) (hx:aK ρ x x') (hy:aK ρ y y'):
  (do eqGuard op t ox oy x' y';binOp op t x' y':Sem Value).run P w=.ok v w/\aK ρ v v:=by
 unfold tP at h
 split at h
 ·rename_i a b
  rw [hx.Aq,hy.Aq]
  simp only [Sem.run_bind,aJz,Result.andThen_ok]
  simp at h
  subst h
  refine ⟨?_,.bool _⟩
  cases neg <;> simp at eO <;> subst eO
  ·exact run_eql_bool w t a b ht
  ·exact run_neq_bool w t a b ht
 ·cases h
theorem afF:∀{xs:List Value} {a:List Int},wV xs=some a->xs=a.map λi=>.int .i64 i
 | [],a,h=>by simp [wV] at h;subst h;rfl
 | x::r,a,h=>by
  unfold wV at h
  split at h
  ·rename_i e;cases e
  ·rename_i i r' e
   cases e
   simp only [map_eq_some_iff] at h
   obtain ⟨b,hb,rfl⟩:=h
   rw [afF hb];rfl
  ·cases h
theorem ans (a b:List Int) (d:Nat):∀(fs:List Field) (i:Nat),HL P i fs=true->i+fs.length=a.length->i+fs.length=b.length->
  (Op.eqFields (d+1) (a.map λi=>Value.int .i64 i).toArray (b.map λi=>Value.int .i64 i).toArray fs).run P w=.ok (decide (a.drop i=b.drop i)) w
 | [],i,_,h1,h2=>by
  simp only [List.length_nil,Nat.add_zero] at h1 h2
  have:decide (a.drop i=b.drop i)=true:=by
   rw [decide_eq_true_eq,List.drop_of_length_le (by omega),List.drop_of_length_le (by omega)]
  rw [this]
  simp [Op.eqFields]
 | f::fs,i,hf,h1,h2=>by
  rw [List.length_cons] at h1 h2
  simp only [HL,and_eq_true,bne_iff_ne,ne_eq,beq_iff_eq] at hf
  obtain ⟨⟨⟨n1,n2⟩,n3⟩,n4⟩:=hf
  have hu:P.underlying f.type=some (.int .i64):=by
   revert n3
   split
   ·rename_i h;intro _;exact h
   ·intro h;cases h
  have ih:=ans a b d fs (i+1) n4 (by omega) (by omega)
  have ha:i<a.length:=by omega
  have hb:i<b.length:=by omega
  have ag:(isAgg f.type).run P w=.ok false w:=by simp [isAgg,run_underlying hu]
  have pa:∀c:List Int,(hc:i<c.length)->(part f.type (c.map λi=>Value.int .i64 i).toArray f.offset).run P w=.ok (.int .i64 c[i]) w:=by
   intro c hc
   unfold part
   simp only [Sem.run_bind,ag,Result.andThen_ok,Bool.false_eq_true,if_false,n2]
   have:(c.map λi=>Value.int .i64 i).toArray[i]?=some (.int .i64 c[i]):=by simp [hc]
   rw [this]
   simp
  have eqi:(Op.equalIn (d+1) f.type (.int .i64 a[i]) (.int .i64 b[i])).run P w=.ok (a[i]==b[i]) w:=by simp [Op.equalIn,run_underlying hu]
  unfold Op.eqFields
  rw [if_pos n1]
  simp only [Sem.run_bind,pa a ha,pa b hb,Result.andThen_ok,eqi]
  rw [List.drop_eq_getElem_cons ha,List.drop_eq_getElem_cons hb]
  by_cases c:a[i]=b[i]
  ·rw [c]
   simp only [beq_self_eq_true,Bool.not_true,Bool.false_eq_true,if_false,ih,List.cons.injEq,true_and]
  ·have e1:(a[i]==b[i])=false:=by simpa using c
   have e2:decide (a[i]::a.drop (i+1)=b[i]::b.drop (i+1))=false:=bX λh=>c (List.cons.inj h).1
   rw [e1,e2]
   simp only [Bool.not_false,if_true,Sem.run_pure]
theorem anu {ρ:bk} {neg:Bool} {op:BinOp} {x y x' y' v:Value} {fs:Array Field} (t:TypeId) (ox oy:Operand) (ht:P.underlying t=some (.struct fs)) (bc:J9 P t fs=true) (eO:op=if neg then .neq else .eql)
  (h:A5 neg fs.size x y=some v) (hx:aK ρ x x') (hy:aK ρ y y'):
  (do eqGuard op t ox oy x' y';binOp op t x' y':Sem Value).run P w=.ok v w/\aK ρ v v:=by
 unfold A5 at h
 split at h
 ·rename_i xs ys
  split at h
  ·rename_i a b ha hb
   split at h
   ·rename_i hl
    simp only [Option.some.injEq] at h
    subst h
    refine ⟨?_,.bool _⟩
    have inv:∀{zs:Array Value} {c:List Int} {z':Value},wV zs.toList=some c->aK ρ (.agg zs) z'->z'=.agg (c.map λi=>Value.int .i64 i).toArray:=by
     intro zs c z' hz hv
     cases hv with
     | @agg _ BG hs hc hr=>
      congr 1
      apply ext'
      have e:=afF hz
      apply List.ext_getElem
      ·have:=congrArg List.length e
       simp at this⊢;omega
      ·intro j h1 h2
       have hj:j<zs.size:=by simp at h1;omega
       have sj:=hr j zs[j] BG[j] (by simp [hj]) (by simp at h1;simp [h1])
       have e2:zs.toList[j]'(by simpa using hj)=.int .i64 (c[j]'(by simpa using h2)):=by
        simp only [e,List.getElem_map]
       have e3:zs[j]=.int .i64 (c[j]'(by simpa using h2)):=by simpa using e2
       rw [e3] at sj
       have:=sj.kT
       simpa using this
    rw [inv ha hx,inv hb hy]
    simp only [J9,and_eq_true,Bool.not_eq_true'] at bc
    obtain ⟨⟨o1,o2⟩,o3⟩:=bc
    have hfs:P.fieldsOf t=fs:=by simp [Program.fieldsOf,ht]
    have key:(Op.equalIn 10000 t (.agg (a.map λi=>Value.int .i64 i).toArray) (.agg (b.map λi=>Value.int .i64 i).toArray)).run P w=.ok (decide (a=b)) w:=by
     rw [show (10000:Nat)=9998+1+1 from rfl,run_equalIn_struct w _ t _ _ (by rw [hfs];exact ht) o2,hfs]
     have:=ans P w a b 9998 fs.toList 0 o1 (by simp;omega) (by simp;omega)
     simpa using this
    simp only [Sem.run_bind,run_eqGuard_agg w op t ox oy _ _ o3,Result.andThen_ok]
    cases neg <;> simp at eO <;> subst eO
    ·rw [run_eql_struct,key];rfl
    ·rw [run_neq_struct,key];rfl
   ·cases h
  ·cases h
 ·cases h
theorem anw {ρ:bk} {neg:Bool} {op:BinOp} {x y x' y' v:Value} {e:TypeId} (t:TypeId) (ox oy:Operand) (ht:P.underlying t=some (.slice e)) (eO:op=if neg then .neq else .eql)
  (h:oG neg x y=some v) (hx:aK ρ x x') (hy:aK ρ y y'):
  (do eqGuard op t ox oy x' y';binOp op t x' y':Sem Value).run P w=.ok v w/\aK ρ v v:=by
 unfold oG at h
 split at h
 ·rename_i a b ha hb
  split at h
  ·rename_i gQ
   simp at h
   subst h
   refine ⟨?_,.bool _⟩
   cases hx <;> simp [ID] at ha <;> cases hy <;> simp [ID] at hb <;> subst ha <;> subst hb <;> simp at gQ
   all_goals
    simp only [Sem.run_bind,aJB,Result.andThen_ok]
    cases neg <;> simp at eO <;> subst eO <;> simp only [Lib.run_eql_slice_nil w t e _ _ _ _ _ ht,run_neq_slice_nil_any w t e _ _ _ _ _ ht,run_eql_nil_slice w t e _ _ _ _ _ ht,run_neq_nil_slice w t e _ _ _ _ _ ht] <;> simp
  ·cases h
 ·cases h
theorem aJ9 {ρ:bk} {op:UnOp} {x x' v:Value} (h:gE op x=some v) (hx:aK ρ x x'):(Op.unary op x').run P w=.ok v w/\aK ρ v v:=by
 unfold gE at h
 split at h
 ·rw [hx.kT];simp at h;subst h;exact ⟨by simp [Op.unary,Op.intArith],.int _ _⟩
 ·rw [hx.Aq];simp at h;subst h;exact ⟨by simp [Op.unary],.bool _⟩
 ·rw [hx.kT];simp only [Option.some.injEq] at h;subst h;exact ⟨rfl,.int _ _⟩
 ·cases h
end
end
section
section
variable {P : Program} (w : World)
theorem aB0 {t:TypeId} (h:jF P t=true):∃i,P.info? t=some i:=by
 unfold jF at h
 exact Option.isSome_iff_exists.1 h
theorem qD {t:TypeId} (h:jF P t=true):(sizeOf t).run P w=.ok (P.cellsOf t) w:=by
 obtain ⟨i,hi⟩:=aB0 h
 exact run_sizeOf w hi
theorem UO {t:TypeId} {d:TypeDesc} (h:P.underlying t=some d):(isAgg t).run P w=.ok (oJ d) w:=by
 cases d <;> simp [isAgg,run_underlying h,oJ]
theorem aC4 {mx:Bool} {k:IntKind} {x:Int} {y v:Value} (h:max2 mx (.int k x) y=some v):∃k' b,y=.int k' b/\∃z,v=.int k z:=by
 unfold max2 at h
 split at h
 ·rename_i k2 x2 k3 y2 e
  cases e
  simp at h
  exact ⟨k3,y2,rfl,_,h.symm⟩
 ·cases h
theorem UP {ρ:bk} {mx:Bool}:∀{xs iA:List Value} {k:IntKind} {x:Int} {v:Value},xs.foldlM (max2 mx) (.int k x)=some v->dw ρ xs iA->
  (iA.foldlM (if mx then Builtin.max2 else Builtin.min2) (.int k x):Sem Value).run P w=.ok v w/\aK ρ v v
 | [],iA,k,x,v,h,hs=>by
  cases hs
  simp at h
  subst h
  exact ⟨rfl,.int _ _⟩
 | y::xs,iA,k,x,v,h,hs=>by
  cases hs with
  | cons hy hs=>
   simp only [List.foldlM_cons,Option.bind_eq_bind,bind_eq_some_iff] at h
   obtain ⟨u,hu,h⟩:=h
   obtain ⟨k',b,rfl,z,rfl⟩:=aC4 hu
   have ih:=UP (ρ:=ρ) h hs
   refine ⟨?_,ih.2⟩
   rw [hy.kT]
   simp only [List.foldlM_cons,Sem.run_bind]
   simp only [max2,Option.some.injEq,Value.int.injEq,true_and] at hu
   cases mx
   ·simp at hu⊢
    simp only [Builtin.min2,Sem.run_pure,Result.andThen_ok,hu]
    simpa using ih.1
   ·simp at hu⊢
    simp only [Builtin.max2,Sem.run_pure,Result.andThen_ok,gt_iff_lt,hu]
    simpa using ih.1
theorem aJT {ρ:bk} {t:TypeId} {x i x' i' v:Value} (ht:P.underlying t=some .string) (h:tQ x i=some v) (hx:aK ρ x x') (hi:aK ρ i i'):
  (Instr.index t x' i').run P w=.ok v w/\aK ρ v v:=by
 unfold tQ at h
 split at h
 ·rename_i s k j
  rw [hx.vO,hi.kT]
  split at h
  ·rename_i h0
   simp only [map_eq_some_iff] at h
   obtain ⟨b,hb,rfl⟩:=h
   refine ⟨?_,.int _ _⟩
   have qT:s[j.toNat]?=some b:=by
    have aw:=(cm hb).1
    have:j.toNat<s.size:=by rw [DW];exact aw
    rw [getElem?_pos s j.toNat this]
    have e:=(cm hb).2
    simp only [bytes,Array.getElem_toList] at e
    rw [<-e]
    rfl
   simp [Instr.index,asIntOf,run_underlying ht,h0,qT]
  ·cases h
 ·cases h
theorem aBN {ρ:bk} {agg:Bool} {off sz:Nat} {cs:List Value} {kj:Array Value} {v:Value} (h:dS agg off sz cs=some v) (hs:dw ρ cs kj.toList) (h1:∀x∈cs,jv x=true):
  ∃v',(if agg then some (.agg (kj.extract off (off+sz))) else kj[off]?)=some v'/\aK ρ v v':=by
 unfold dS at h
 cases agg
 ·simp at h⊢
  obtain ⟨y,hy,hr⟩:=hs.get h
  exact ⟨y,by simpa using hy,hr⟩
 ·simp at h⊢
  obtain ⟨hl,rfl⟩:=h
  have:=((hs.drop off).take sz)
  have e:(kj.extract off (off+sz))=((kj.toList.drop off).take sz).toArray:=by
   apply ext'
   simp [List.take_drop]
  rw [e]
  exact .FB this (λx hx=>h1 x (List.mem_of_mem_drop (List.mem_of_mem_take hx)))
theorem anC {ρ:bk} {t:TypeId} {d:TypeDesc} {off:Nat} {cs:List Value} {kj:Array Value} {v:Value} (ht:P.underlying t=some d) (hk:jF P t=true)
  (h:dS (oJ d) off (P.cellsOf t) cs=some v) (hs:dw ρ cs kj.toList) (h1:∀x∈cs,jv x=true):
  ∃v',(part t kj off).run P w=.ok v' w/\aK ρ v v':=by
 obtain ⟨v',hv,hr⟩:=aBN h hs h1
 refine ⟨v',?_,hr⟩
 unfold part
 simp only [Sem.run_bind,UO w ht,Result.andThen_ok]
 cases hd:oJ d
 ·rw [hd] at hv
  simp at hv⊢
  rw [hv]
  rfl
 ·rw [hd] at hv
  simp at hv⊢
  simp only [qD w hk,Result.andThen_ok,hv]
theorem aK.Yc {ρ:bk} {cs:Array Value} {x':Value} (h:aK ρ (.agg cs) x'):∃kj,x'=.agg kj/\dw ρ cs.toList kj.toList/\∀x∈cs.toList,jv x=true:=by
 cases h with
 | agg hs h1 h=>exact ⟨_,rfl,dw.zK hs h,h1⟩
theorem aJS {ρ:bk} {t e:TypeId} {d:TypeDesc} {n:Nat} {x i x' i' v:Value} (ht:P.underlying t=some (.array n e)) (he:P.underlying e=some d) (hk:jF P e=true)
  (h:QY n (P.cellsOf e) (oJ d) x i=some v) (hx:aK ρ x x') (hi:aK ρ i i'):
  ∃v',(Instr.index t x' i').run P w=.ok v' w/\aK ρ v v':=by
 unfold QY at h
 split at h
 ·rename_i cs k j
  obtain ⟨kj,rfl,hs,h1⟩:=hx.Yc
  rw [hi.kT]
  split at h
  ·rename_i h0
   obtain ⟨v',hr,hv⟩:=anC w he hk h hs h1
   refine ⟨v',?_,hv⟩
   simp [Instr.index,asIntOf,run_underlying ht,h0,qD w hk,hr]
  ·cases h
 ·cases h
theorem aJR {ρ:bk} {t:TypeId} {fs:Array Field} {f:Nat} {fd:Field} {d:TypeDesc} {x x' v:Value} (ht:P.underlying t=some (.struct fs)) (hf:fs[f]?=some fd) (he:P.underlying fd.type=some d)
  (hk:jF P fd.type=true) (h:yW (oJ d) fd.offset (P.cellsOf fd.type) x=some v) (hx:aK ρ x x'):
  ∃v',(Instr.field t x' f).run P w=.ok v' w/\aK ρ v v':=by
 unfold yW at h
 split at h
 ·rename_i cs
  obtain ⟨kj,rfl,hs,h1⟩:=hx.Yc
  obtain ⟨v',hr,hv⟩:=anC w he hk h hs h1
  refine ⟨v',?_,hv⟩
  simp [Instr.field,run_underlying ht,hf,asAgg,hr]
 ·cases h
theorem aJE {ρ:bk} {t e:TypeId} {x i x' i' v:Value} (ht:P.underlying t=some (.slice e)) (hk:jF P e=true)
  (h:aD (P.cellsOf e) x i=some v) (hx:aK ρ x x') (hi:aK ρ i i'):
  ∃v',(Instr.indexAt t x' i').run P w=.ok v' w/\aK ρ v v':=by
 unfold aD at h
 split at h
 ·rename_i id o e' n c k j
  split at h
  ·rename_i h0
   simp at h
   subst h
   rw [hi.kT]
   cases hx with
   | slice hr ho hn hc hb ek=>
    rename_i o' c' r
    have fU:o'=r.sh+o:=by
     rcases ho with ho | ⟨h1,h2,h3⟩
     ·exact ho
     ·omega
    subst fU
    refine ⟨_,?_,aK.ptr hr⟩
    simp [Instr.indexAt,asIntOf,run_underlying ht,h0,qD w hk,Addr.add_lit,Nat.add_assoc]
  ·cases h
 ·cases h
theorem aK.DL {ρ:bk} {id o:Nat} {x':Value} (h:aK ρ (.pointer (some ⟨id,o,none⟩)) x'):∃r,ρ id=some r/\x'=.pointer (some ⟨r.cZ,r.sh+o,none⟩):=by
 cases h with
 | ptr hr=>exact ⟨_,hr,rfl⟩
theorem aJD {ρ:bk} {t e:TypeId} {n:Nat} {x i x' i' v:Value} (ht:P.underlying t=some (.array n e)) (hk:jF P e=true)
  (h:QW n (P.cellsOf e) x i=some v) (hx:aK ρ x x') (hi:aK ρ i i'):
  ∃v',(Instr.indexAt t x' i').run P w=.ok v' w/\aK ρ v v':=by
 unfold QW at h
 split at h
 ·rename_i id o k j
  split at h
  ·rename_i h0
   simp at h
   subst h
   rw [hi.kT]
   obtain ⟨r,hr,rfl⟩:=hx.DL
   refine ⟨_,?_,aK.ptr hr⟩
   simp [Instr.indexAt,asIntOf,run_underlying ht,h0,qD w hk,Instr.sureAddr,Addr.add_lit,Nat.add_assoc]
  ·cases h
 ·cases h
theorem aJQ {ρ:bk} {t:TypeId} {fs:Array Field} {f:Nat} {fd:Field} {x x' v:Value} (ht:P.underlying t=some (.struct fs)) (hf:fs[f]?=some fd) (hk:jF P fd.type=true)
  (hz:P.cellsOf fd.type≠0) (h:aF fd.offset x=some v) (hx:aK ρ x x'):
  ∃v',(Instr.fieldAt t x' f).run P w=.ok v' w/\aK ρ v v':=by
 unfold aF at h
 split at h
 ·rename_i id o
  simp at h
  subst h
  obtain ⟨r,hr,rfl⟩:=hx.DL
  refine ⟨_,?_,aK.ptr hr⟩
  simp [Instr.fieldAt,run_underlying ht,hf,Instr.sureAddr,fieldPlace,qD w hk,hz,Addr.add_lit,Nat.add_assoc]
 ·cases h
theorem agF {ρ:bk} {v v':Value} {n:Nat} (h:od v=some n) (hv:aK ρ v v'):∃k i,v'=.int k i/\0<=i/\i.toNat=n:=by
 unfold od at h
 split at h
 ·rename_i k i
  rw [hv.kT]
  split at h
  ·rename_i h0
   simp at h
   exact ⟨k,i,rfl,h0,h⟩
  ·cases h
 ·cases h
def xM (ρ:bk):Option Value->Option Value->Prop
 | none,none=>True
 | some a,some b=>aK ρ a b
 | _,_=>False
theorem UN {ρ:bk} {n cap:Nat} {isSlice:Bool} {lo hi pC iM:Option Value} {l h:Nat} (he:mE n lo hi=some (l,h)) (hc:n<=cap) (fO:xM ρ lo pC) (kE:xM ρ hi iM):
  (Instr.sliceBounds isSlice n cap pC iM none).run P w=.ok (l,h,cap) w/\l<=h/\h<=n:=by
 unfold mE at he
 split at he
 ·rename_i l1 h1 hl hh
  split at he
  ·rename_i hb
   simp at he
   obtain ⟨rfl,rfl⟩:=he
   refine ⟨?_,hb.1,hb.2⟩
   have bh:∀(v:Value),iM=some v->∃k i,v=.int k i/\0<=i/\i.toNat=h1:=by
    intro v hv
    subst hv
    cases hi with
    | none=>exact kE.elim
    | some u=>exact agF hh kE
   have bh0:iM=none->h1=n:=by
    intro hv
    subst hv
    cases hi with
    | none=>simpa using hh.symm
    | some u=>exact kE.elim
   have bl:∀(v:Value),pC=some v->∃k i,v=.int k i/\0<=i/\i.toNat=l1:=by
    intro v hv
    subst hv
    cases lo with
    | none=>exact fO.elim
    | some u=>exact agF hl fO
   have Yk:pC=none->l1=0:=by
    intro hv
    subst hv
    cases lo with
    | none=>simpa using hl.symm
    | some u=>exact fO.elim
   unfold Instr.sliceBounds
   cases iM with
   | none=>
    obtain rfl:=bh0 rfl
    cases pC with
    | none=>obtain rfl:=Yk rfl;simp
    | some v=>
     obtain ⟨k,i,rfl,h0,rfl⟩:=bl v rfl
     have:i<=(h1:Int):=by omega
     simp [Instr.sliceBound,asIntOf,h0,this]
   | some u=>
    obtain ⟨k,i,rfl,h0,rfl⟩:=bh u rfl
    have hic:i<=(cap:Int):=by omega
    cases pC with
    | none=>obtain rfl:=Yk rfl;simp [Instr.sliceBound,asIntOf,h0,hic]
    | some v=>
     obtain ⟨k2,j,rfl,h2,rfl⟩:=bl v rfl
     have:j<=i:=by omega
     simp [Instr.sliceBound,asIntOf,h0,hic,h2,this,Int.toNat_of_nonneg h0]
  ·cases he
 ·cases he
theorem aAc (s:ByteArray) (l h:Nat):s.extract l h=⟨(((bytes s).take h).drop l).toArray⟩:=by
 apply ByteArray.ext
 apply ext'
 simp only [bytes,ByteArray.data_extract,Array.toList_extract,List.drop_take]
theorem aJ5 {ρ:bk} {t:TypeId} {x x' v:Value} {lo hi pC iM:Option Value} (ht:P.underlying t=some .string) (h:yX x lo hi=some v) (hx:aK ρ x x')
  (fO:xM ρ lo pC) (kE:xM ρ hi iM):(Instr.sliceAt t x' pC iM none).run P w=.ok v w/\aK ρ v v:=by
 unfold yX at h
 split at h
 ·rename_i s
  rw [hx.vO]
  simp only [map_eq_some_iff,Prod.exists] at h
  obtain ⟨l,u,hb,rfl⟩:=h
  obtain ⟨hr,h1,h2⟩:=UN (P:=P) w (isSlice:=false) hb (le_refl _) fO kE
  refine ⟨?_,aK.S _ _⟩
  rw [<-DW] at hr
  simp [Instr.sliceAt,Instr.slice,run_underlying ht,hr,S,aAc]
 ·cases h
theorem ac0 {n m c' l u esz:Nat} {lo hi:Option Value} (hb:mE n lo hi=some (l,u)) (ek:n<=m/\m<=c'):u-l<=pc esz lo (u-l) m/\pc esz lo (u-l) m<=c' -l:=by
 have hu:l<=u/\u<=n/\(lo=none->l=0):=by
  unfold mE at hb
  split at hb
  ·rename_i h1 h2
   split at hb
   ·simp at hb
    refine ⟨by omega,by omega,λe=>?_⟩
    subst e
    simp at h1
    omega
   ·cases hb
  ·cases hb
 unfold pc
 split
 ·omega
 ·split
  ·have:=hu.2.2 rfl
   omega
  ·omega
theorem aJ6 {ρ:bk} {t e:TypeId} {x x' v:Value} {lo hi pC iM:Option Value} (hH:∀i r,ρ i=some r->r.esz=P.cellsOf r.elem) (ht:P.underlying t=some (.slice e)) (hk:jF P e=true)
  (h:fP e (P.cellsOf e) x lo hi=some v) (hx:aK ρ x x') (fO:xM ρ lo pC) (kE:xM ρ hi iM):
  ∃v',(Instr.sliceAt t x' pC iM none).run P w=.ok v' w/\aK ρ v v':=by
 unfold fP at h
 split at h
 ·simp only [map_eq_some_iff,Prod.exists] at h
  obtain ⟨l,u,hb,rfl⟩:=h
  obtain ⟨hr,h1,h2⟩:=UN (P:=P) w (isSlice:=true) hb (le_refl _) fO kE
  cases hx
  refine ⟨_,?_,.qw⟩
  obtain rfl:u=0:=by omega
  obtain rfl:l=0:=by omega
  simp [Instr.sliceAt,Instr.slice,run_underlying ht,hr,qD w hk]
 ·rename_i id o e' n c
  split at h
  ·rename_i hee
   subst hee
   simp only [map_eq_some_iff,Prod.exists] at h
   obtain ⟨l,u,hb,rfl⟩:=h
   cases hx with
   | slice hr ho hn hc wF ek=>
    rename_i o' c' r
    obtain ⟨gN,h1,h2⟩:=UN (P:=P) w (isSlice:=true) hb hn fO kE
    have kP:=hH _ _ hr
    by_cases gM:c'=l
    ·refine ⟨.slice (some ⟨r.cZ,o',none⟩) (u-l) (c' -l),?_,?_⟩
     ·rw [gM] at gN⊢
      simp [Instr.sliceAt,Instr.slice,run_underlying ht,gN,qD w hk]
     ·refine aK.slice hr ?_ (by omega) (by omega) ?_ (ac0 hb ek)
      ·rcases Nat.eq_zero_or_pos (l*P.cellsOf r.elem) with hz | hz
       ·rw [hz]
        rcases ho with ho | ⟨q1,q2,q3⟩
        ·exact .inl (by omega)
        ·exact .inr ⟨by omega,by omega,by omega⟩
       ·exact .inr ⟨by omega,by omega,by omega⟩
      ·have:c' -l=0:=by omega
       rw [this]
       have:o'<=o'+c'*r.esz:=Nat.le_add_right _ _
       omega
    ·refine ⟨.slice (some ⟨r.cZ,o'+l*P.cellsOf r.elem,none⟩) (u-l) (c' -l),?_,?_⟩
     ·simp [Instr.sliceAt,Instr.slice,run_underlying ht,gN,qD w hk,gM,Addr.add_lit]
     ·refine aK.slice hr ?_ (by omega) (by omega) ?_ (ac0 hb ek)
      ·rcases ho with ho | ⟨q1,q2,q3⟩
       ·exact .inl (by omega)
       ·exfalso;omega
      ·rw [<-kP]
       have e1:l*r.esz+(c' -l)*r.esz=c'*r.esz:=by rw [<-add_mul];congr 1;omega
       omega
  ·cases h
 ·cases h
theorem aJ3 {ρ:bk} {o:Oper} {ox:Operand} {g':Operand->Value} {x v:Value} (ho:o.op=.nilCheck ox) (h:eI x=some v) (hx:aK ρ x (g' ox)):
  ∃v',(execOp g' o).run P w=.ok (.value v') w/\aK ρ v v':=by
 unfold eI at h
 split at h
 ·simp at h
  subst h
  generalize hy:g' ox=y at hx
  have dM:=hx
  cases hx with
  | ptr hr=>
   refine ⟨_,?_,dM⟩
   simp [execOp,ho,hy]
 ·simp at h
  subst h
  generalize hy:g' ox=y at hx
  have dM:=hx
  cases hx with
  | func f a b c d=>
   refine ⟨_,?_,dM⟩
   simp [execOp,ho,hy]
  | yield hr=>
   refine ⟨_,?_,dM⟩
   simp [execOp,ho,hy]
 ·cases h
theorem aJP {ρ:bk} {x x' v:Value} {i:Nat} (h:cW i x=some v) (hx:aK ρ x x'):∃v',(Instr.extract x' i).run P w=.ok v' w/\aK ρ v v':=by
 unfold cW at h
 split at h
 ·cases hx with
  | tuple hs hr=>
   obtain ⟨y,hy,hv⟩:=(dw.zK hs hr).get (k:=i) (x:=v) (by simpa using h)
   refine ⟨y,?_,hv⟩
   simp only [getElem?_toList] at hy
   simp [Instr.extract,hy]
 ·cases h
end
theorem dw.zo {ρ:bk} {g g':Operand->Value} (hg:∀x,kF x=true->aK ρ (g x) (g' x)):∀{xs:List Operand},xs.all kF=true->dw ρ (xs.map g) (xs.map g')
 | [],_=>.nil
 | x::xs,h=>by
  simp at h
  exact .cons (hg x h.1) (dw.zo hg (by simpa using h.2))
end
section
theorem aKf (l:List Value) (o:Nat) (v:Value) (vs:List Value) (h:o<l.length):setAt (l.set o v) (o+1) vs=setAt l o (v::vs):=by
 have e:l.set o v=l.take o++v::l.drop (o+1):=by rw [List.set_eq_take_append_cons_drop,if_pos h]
 have hl:(l.take o).length=o:=by simp;omega
 unfold setAt
 have e1:(l.set o v).take (o+1)=l.take o++[v]:=by
  rw [e,List.take_append,hl,List.take_of_length_le (by omega)]
  simp
 have e2:(l.set o v).drop (o+1+vs.length)=l.drop (o+(v::vs).length):=by
  rw [List.drop_set,if_pos (by omega)]
  congr 1
  simp
  omega
 rw [e1,e2]
 simp
theorem aKj (vs:List Value):∀(off i:Nat) (cs:Array Value),off+i+vs.length<=cs.size->
  ((vs.zipIdx i).foldl (λcs (c,j)=>cs.setIfInBounds (off+j) c) cs).toList=setAt cs.toList (off+i) vs:=by
 induction vs with
 | nil=>intro off i cs h;simp [setAt]
 | cons v vs ih=>
  intro off i cs h
  simp only [List.zipIdx_cons,List.foldl_cons]
  rw [ih off (i+1) _ (by simp at h⊢;omega)]
  rw [Array.toList_setIfInBounds,show off+(i+1)=off+i+1 by omega]
  exact aKf _ _ _ _ (by simp at h⊢;omega)
theorem aKi {ρ:bk} {xs ys:List Value} (h:dw ρ xs ys) {o:Nat} {vs kX:List Value} (hv:dw ρ vs kX):dw ρ (setAt xs o vs) (setAt ys o kX):=by
 unfold setAt
 rw [<-hv.length]
 exact ((h.take o).append hv).append (h.drop _)
theorem aKg {xs:List Value} {o:Nat} {vs:List Value} {p:Value->Prop} (h:∀x∈xs,p x) (hv:∀x∈vs,p x):∀x∈setAt xs o vs,p x:=by
 intro x hx
 unfold setAt at hx
 simp only [List.mem_append] at hx
 rcases hx with (hx | hx) | hx
 ·exact h x (List.mem_of_mem_take hx)
 ·exact hv x hx
 ·exact h x (List.mem_of_mem_drop hx)
inductive uz (ρ:bk) (place:Nat->Option (Nat×Nat)):List (Nat×Nat×Value)->List (Nat×Value)->Prop
 | nil:uz ρ place [] []
 | cons {o s i:Nat} {v v':Value} {ps:List (Nat×Nat×Value)} {qs:List (Nat×Value)}:place i=some (o,s)->aK ρ v v'->uz ρ place ps qs->uz ρ place ((o,s,v)::ps) ((i,v')::qs)
theorem Pv {ρ:bk} {place:Nat->Option (Nat×Nat)} {ps:List (Nat×Nat×Value)} {qs:List (Nat×Value)} (hp:uz ρ place ps qs):
  ∀{xs cs:List Value} {ys:Array Value},jC xs ps=some cs->dw ρ xs ys.toList->(∀x∈xs,jv x=true)->
   ∃kj,Instr.fill place ys qs=some kj/\dw ρ cs kj.toList/\(∀x∈cs,jv x=true)/\cs.length=xs.length:=by
 induction hp with
 | nil=>
  intro xs cs ys h hs h1
  simp [jC] at h
  subst h
  exact ⟨ys,by simp [Instr.fill],hs,h1,rfl⟩
 | cons oD hv _ ih=>
  rename_i o s i v v' ps qs _
  intro xs cs ys h hs h1
  simp only [jC] at h
  split at h
  ·rename_i hc
   obtain ⟨ht,hl,ho⟩:=hc
   have A2:=hv.cells ht
   have qW:v'.cells.size=s:=by rw [<-hl,A2.length];simp [dL]
   have nG:o+v'.cells.size<=ys.size:=by have:=hs.length;simp at this;omega
   have aex:=aKj (dL v') o 0 ys (by simp [dL];omega)
   simp only [Nat.add_zero] at aex
   have wE:v'.cells.zipIdx.foldl (λcs x=>cs.setIfInBounds (o+x.2) x.1) ys=(setAt ys.toList o (dL v')).toArray:=by
    apply ext'
    rw [<-aex,<-Array.foldl_toList]
    simp [dL,Array.toList_zipIdx]
   obtain ⟨kj,hf,hr,h2,hlen⟩:=ih (ys:=(setAt ys.toList o (dL v')).toArray) h (by simpa using aKi hs A2) (aKg h1 (hv.Hj ht))
   refine ⟨kj,?_,hr,h2,?_⟩
   ·unfold Instr.fill
    simp only [oD]
    rw [if_neg (by simp [qW];omega)]
    rw [<-hf,<-wE]
   ·rw [hlen]
    simp [setAt]
    omega
  ·cases h
theorem BF {P:Program} {t:TypeId} {zs:List Value} (h:zeroOf P t=some zs):
  ∃i z,P.info? t=some i/\i.zero=some z/\zs=dL z/\fV z=true/\(∀x∈zs,mM x=true/\jv x=true)/\zs.length=i.size:=by
 unfold zeroOf at h
 split at h
 ·rename_i i hi
  split at h
  ·rename_i z hz
   split at h
   ·rename_i hc
    simp at h
    subst h
    simp only [and_eq_true,all_eq_true,Ar,beq_iff_eq] at hc
    exact ⟨i,z,hi,hz,rfl,hc.1.1,λx hx=>hc.1.2 x hx,hc.2⟩
   ·cases h
  ·cases h
 ·cases h
theorem dw.closed {ρ:bk}:∀{zs:List Value},(∀x∈zs,mM x=true)->dw ρ zs zs
 | [],_=>.nil
 | x::zs,h=>.cons (mM.rel (h x (by simp))) (dw.closed λy hy=>h y (by simp [hy]))
section
variable {P : Program} (w : World)
theorem zF {t:TypeId} {i:TypeInfo} {z:Value} (hi:P.info? t=some i) (hz:i.zero=some z):(zeroValue t).run P w=.ok z w:=by
 simp [zeroValue,typeInfo,hi,hz]
theorem anF:∀(fs:List Field),(∀f∈fs,jF P f.type=true)->
  (fs.mapM (m:=Sem) λf=>do pure (f.offset,<-sizeOf f.type)).run P w=.ok (fs.map λf=>(f.offset,P.cellsOf f.type)) w
 | [],_=>rfl
 | f::fs,h=>by
  have ih:=anF fs (λg hg=>h g (by simp [hg]))
  simp only [List.mapM_cons,Sem.run_bind,qD w (h f (by simp)),Result.andThen_ok,Sem.run_pure,ih,List.map_cons]
end
end
section
section
variable {P : Program} (w : World) {ρ : bk} {g g' : Operand -> Value}
theorem Jd (hg:∀x,kF x=true->aK ρ (g x) (g' x)) (l:Option Operand) (h:l.toArray.all kF=true):xM ρ (l.map g) (l.map g'):=by
 cases l with
 | none=>trivial
 | some x=>exact hg x (by simpa using h)
theorem amG (hg:∀x,kF x=true->aK ρ (g x) (g' x)) (place:Nat->Option (Nat×Nat)):∀(qs:List (Nat×Operand)) (ps:List (Nat×Nat×Operand)),
  qs.mapM (m:=Option) (λ(i,x)=>(place i).map λ(o,s)=>(o,s,x))=some ps->(∀q∈qs,kF q.2=true)->
  uz ρ place (ps.map λ(o,s,x)=>(o,s,g x)) (qs.map λ(i,x)=>(i,g' x))
 | [],ps,h,_=>by
  simp at h
  subst h
  exact .nil
 | (i,x)::qs,ps,h,hq=>by
  simp only [List.mapM_cons,Option.bind_eq_bind,bind_eq_some_iff] at h
  obtain ⟨p,hp,ps',Qv,h⟩:=h
  simp at h
  subst h
  simp only [map_eq_some_iff] at hp
  obtain ⟨⟨o,s⟩,oD,rfl⟩:=hp
  exact .cons oD (hg x (hq (i,x) (by simp))) (amG hg place qs ps' Qv λq hm=>hq q (by simp [hm]))
theorem Ul (hg:∀x,kF x=true->aK ρ (g x) (g' x)) (pl:Nat->Nat×Nat):∀(qs:List (Nat×Operand)),(∀q∈qs,kF q.2=true)->
  uz ρ (λi=>some (pl i)) ((qs.map λ(i,x)=>((pl i).1,(pl i).2,x)).map λ(o,s,x)=>(o,s,g x)) (qs.map λ(i,x)=>(i,g' x))
 | [],_=>.nil
 | (i,x)::qs,hq=>.cons rfl (hg x (hq (i,x) (by simp))) (Ul hg pl qs λq hm=>hq q (by simp [hm]))
theorem aJK {t:TypeId} {fs:Array Field} {zs:List Value} {ps:List (Nat×Nat×Value)} {qs:Array (Nat×Value)} {v:Value} (ht:P.underlying t=some (.struct fs)) (hz:zeroOf P t=some zs)
  (hk:∀f∈fs.toList,jF P f.type=true) (hp:uz ρ ((placesOf P fs)[·]?) ps qs.toList) (h:eG zs ps=some v):
  ∃v',(Instr.build t qs).run P w=.ok v' w/\aK ρ v v':=by
 obtain ⟨i,z,hi,qt,rfl,qY,gM,hlen⟩:=BF hz
 simp only [eG,map_eq_some_iff] at h
 obtain ⟨cs,hf,rfl⟩:=h
 obtain ⟨kj,AN,hr,h1,_⟩:=Pv (ys:=z.cells) hp hf (dw.closed λx hx=>(gM x hx).1) (λx hx=>(gM x hx).2)
 refine ⟨.agg kj,?_,?_⟩
 ·have hm:=anF (P:=P) w fs.toList hk
  have kk:(fs.mapM (m:=Sem) λf=>do pure (f.offset,<-sizeOf f.type)).run P w=.ok (fs.toList.map λf=>(f.offset,P.cellsOf f.type)).toArray w:=by
   rw [Array.mapM_eq_mapM_toList]
   simp only [Sem.run_map,hm,Result.andThen_ok]
  have oD:(λ(x:Nat)=>((fs.toList.map λf=>(f.offset,P.cellsOf f.type)).toArray)[x]?)=((placesOf P fs)[·]?):=by
   funext x
   simp [placesOf]
  simp only [Instr.build,Sem.run_bind,zF w hi qt,Result.andThen_ok,run_underlying ht,kk]
  rw [oD,AN]
  simp
 ·have:=aK.FB (ρ:=ρ) hr h1
  simpa using this
theorem aJJ {t e:TypeId} {n:Nat} {zs:List Value} {ps:List (Nat×Nat×Value)} {qs:Array (Nat×Value)} {v:Value} (ht:P.underlying t=some (.array n e)) (hz:zeroOf P t=some zs)
  (hk:jF P e=true) (hp:uz ρ (λi=>some (i*P.cellsOf e,P.cellsOf e)) ps qs.toList) (h:eG zs ps=some v):
  ∃v',(Instr.build t qs).run P w=.ok v' w/\aK ρ v v':=by
 obtain ⟨i,z,hi,qt,rfl,qY,gM,hlen⟩:=BF hz
 simp only [eG,map_eq_some_iff] at h
 obtain ⟨cs,hf,rfl⟩:=h
 obtain ⟨kj,AN,hr,h1,_⟩:=Pv (ys:=z.cells) hp hf (dw.closed λx hx=>(gM x hx).1) (λx hx=>(gM x hx).2)
 refine ⟨.agg kj,?_,?_⟩
 ·simp only [Instr.build,Sem.run_bind,zF w hi qt,Result.andThen_ok,run_underlying ht,qD w hk]
  rw [AN]
  simp
 ·have:=aK.FB (ρ:=ρ) hr h1
  simpa using this
theorem aAe {fn:Func} (h:fn.name= "internal/bytealg.IndexByteString"):Extern.find fn=some Extern.BytealgIndexByte.indexByte:=by
 unfold Extern.find
 rw [h]
 rfl
theorem aAb {f:FuncId} (h:Pr P f=true):∃fn,P.funcs[f]?=some fn/\(fn.name== "runtime.NumGoroutine")=false/\fn.body.isNone=true/\Extern.findNext fn=none/\Extern.find fn=some Extern.BytealgIndexByte.indexByte:=by
 unfold Pr at h
 split at h
 ·rename_i fn hf
  simp only [and_eq_true,beq_iff_eq] at h
  obtain ⟨⟨h1,h2⟩,h3⟩:=h
  exact ⟨fn,hf,by rw [h2];decide,h1,by simpa using h3,aAe h2⟩
 ·cases h
theorem aDF {o:Oper} {po:p7} (hc:jM P o.op=some po) (bc:o.op.operands.all kF=true) (hH:∀i r,ρ i=some r->r.esz=P.cellsOf r.elem)
  (hg:∀x,kF x=true->aK ρ (g x) (g' x)) {v:Value} (hi:kn po g=some v):∃v',(execOp g' o).run P w=.ok (.value v') w/\aK ρ v v':=by
 cases ho:o.op with
 | move x=>
  rw [ho] at hc bc
  simp [jM] at hc;subst hc
  simp [Op.operands] at bc
  simp [kn] at hi;subst hi
  exact ⟨g' x,by simp [execOp,ho],hg x bc⟩
 | assign x=>
  rw [ho] at hc bc
  simp [jM] at hc;subst hc
  simp [Op.operands] at bc
  simp [kn] at hi;subst hi
  exact ⟨g' x,by simp [execOp,ho],hg x bc⟩
 | pick c a b=>
  rw [ho] at hc bc
  simp [jM] at hc;subst hc
  simp [Op.operands] at bc
  simp only [kn,bu] at hi
  split at hi
  ·rename_i t ht
   have hcb:=hg c bc.1
   rw [ht] at hcb
   simp at hi;subst hi
   refine ⟨if t then g' a else g' b,by simp [execOp,ho,hcb.Aq,asBool],?_⟩
   cases t
   ·simpa using hg b bc.2.2
   ·simpa using hg a bc.2.1
  ·cases hi
 | binOp op t x y yt=>
  rw [ho] at hc bc
  simp [Op.operands] at bc
  have hx:=hg x bc.1
  have hy:=hg y bc.2
  simp only [jM] at hc
  have fin:∀v',(do eqGuard op t x y (g' x) (g' y);binOp op t (g' x) (g' y):Sem Value).run P w=.ok v' w->(execOp g' o).run P w=.ok (.value v') w:=by
   intro v' h
   simp only [execOp,ho]
   simp only [Sem.run_bind] at h⊢
   rw [h]
   rfl
  split at hc
  ·split at hc
   ·simp at hc;subst hc
    obtain ⟨h1,h2⟩:=anu P w (op:=.eql) t x y ‹_› ‹_› rfl hi hx hy
    exact ⟨v,fin v h1,h2⟩
   ·simp at hc;subst hc
    obtain ⟨h1,h2⟩:=UM P w (op:=.eql) t x y hi hx hy
    exact ⟨v,fin v h1,h2⟩
  ·split at hc
   ·simp at hc;subst hc
    obtain ⟨h1,h2⟩:=anu P w (op:=.neq) t x y ‹_› ‹_› rfl hi hx hy
    exact ⟨v,fin v h1,h2⟩
   ·simp at hc;subst hc
    obtain ⟨h1,h2⟩:=UM P w (op:=.neq) t x y hi hx hy
    exact ⟨v,fin v h1,h2⟩
  ·simp at hc;subst hc
   obtain ⟨h1,h2⟩:=anv P w (op:=.eql) t x y ‹_› rfl hi hx hy
   exact ⟨v,fin v h1,h2⟩
  ·simp at hc;subst hc
   obtain ⟨h1,h2⟩:=anv P w (op:=.neq) t x y ‹_› rfl hi hx hy
   exact ⟨v,fin v h1,h2⟩
  ·simp at hc;subst hc
   obtain ⟨h1,h2⟩:=anw P w (op:=.eql) t x y ‹_› rfl hi hx hy
   exact ⟨v,fin v h1,h2⟩
  ·simp at hc;subst hc
   obtain ⟨h1,h2⟩:=anw P w (op:=.neq) t x y ‹_› rfl hi hx hy
   exact ⟨v,fin v h1,h2⟩
  ·simp at hc;subst hc
   obtain ⟨h1,h2⟩:=UM P w t x y hi hx hy
   exact ⟨v,fin v h1,h2⟩
 | unOp op t x=>
  rw [ho] at hc bc
  simp [jM] at hc;subst hc
  simp [Op.operands] at bc
  obtain ⟨h1,h2⟩:=aJ9 P w hi (hg x bc)
  exact ⟨v,by simp [execOp,ho,h1],h2⟩
 | convert s d x=>
  rw [ho] at hc bc
  simp [Op.operands] at bc
  simp only [jM] at hc
  split at hc
  ·rename_i k0 k hs hd
   simp at hc;subst hc
   simp only [kn,dI] at hi
   split at hi
   ·rename_i k1 n hx
    have:=hg x bc
    rw [hx] at this
    simp at hi;subst hi
    refine ⟨_,?_,.int _ _⟩
    simp [execOp,ho,this.kT,convert,run_underlying hs,run_underlying hd,Conv.intToInt]
   ·cases hi
  ·rename_i hs hd
   simp at hc;subst hc
   simp only [kn,afx] at hi
   split at hi
   ·rename_i z hx
    have:=hg x bc
    rw [hx] at this
    simp at hi;subst hi
    refine ⟨_,?_,.string _⟩
    simp [execOp,ho,this.vO,convert,run_underlying hs,run_underlying hd]
   ·cases hi
  ·rename_i k0 hs hd
   simp at hc;subst hc
   simp only [kn,afw] at hi
   split at hi
   ·rename_i k1 n hx
    have:=hg x bc
    rw [hx] at this
    simp at hi;subst hi
    refine ⟨_,?_,.string _⟩
    simp [execOp,ho,this.kT,convert,run_underlying hs,run_underlying hd,Conv.intToString]
   ·cases hi
  ·cases hc
 | indexAddr t x i=>
  rw [ho] at hc bc
  simp [Op.operands] at bc
  simp only [jM] at hc
  split at hc
  ·rename_i e ht
   split at hc
   ·rename_i hk
    simp at hc;subst hc
    obtain ⟨v',h1,h2⟩:=aJE w ht hk hi (hg x bc.1) (hg i bc.2)
    exact ⟨v',by simp [execOp,ho,h1],h2⟩
   ·cases hc
  ·rename_i n e ht
   split at hc
   ·rename_i hk
    simp at hc;subst hc
    obtain ⟨v',h1,h2⟩:=aJD w ht hk hi (hg x bc.1) (hg i bc.2)
    exact ⟨v',by simp [execOp,ho,h1],h2⟩
   ·cases hc
  ·cases hc
 | index t x i=>
  rw [ho] at hc bc
  simp [Op.operands] at bc
  simp only [jM] at hc
  split at hc
  ·rename_i ht
   simp at hc;subst hc
   obtain ⟨h1,h2⟩:=aJT w ht hi (hg x bc.1) (hg i bc.2)
   exact ⟨v,by simp [execOp,ho,h1],h2⟩
  ·rename_i n e ht
   split at hc
   ·rename_i d hd
    split at hc
    ·rename_i hk
     simp at hc;subst hc
     simp only [and_eq_true] at hk
     obtain ⟨v',h1,h2⟩:=aJS w ht hd hk.1 hi (hg x bc.1) (hg i bc.2)
     exact ⟨v',by simp [execOp,ho,h1],h2⟩
    ·cases hc
   ·cases hc
  ·cases hc
 | fieldAddr t x f=>
  rw [ho] at hc bc
  simp [Op.operands] at bc
  simp only [jM] at hc
  split at hc
  ·rename_i fs ht
   split at hc
   ·rename_i fd hf
    split at hc
    ·rename_i hk
     simp at hc;subst hc
     simp only [and_eq_true,bne_iff_ne] at hk
     obtain ⟨v',h1,h2⟩:=aJQ w ht hf hk.1 hk.2 hi (hg x bc)
     exact ⟨v',by simp [execOp,ho,h1],h2⟩
    ·cases hc
   ·cases hc
  ·cases hc
 | field t x f=>
  rw [ho] at hc bc
  simp [Op.operands] at bc
  simp only [jM] at hc
  split at hc
  ·rename_i fs ht
   split at hc
   ·rename_i fd hf
    split at hc
    ·rename_i d hd
     split at hc
     ·rename_i hk
      simp at hc;subst hc
      simp only [and_eq_true] at hk
      obtain ⟨v',h1,h2⟩:=aJR w ht hf hd hk.1 hi (hg x bc)
      exact ⟨v',by simp [execOp,ho,h1],h2⟩
     ·cases hc
    ·cases hc
   ·cases hc
  ·cases hc
 | slice t x lo iM mx=>
  rw [ho] at hc bc
  simp only [jM] at hc
  split at hc
  ·rename_i ht
   simp at hc;subst hc
   simp only [Op.operands,Array.all_append,and_eq_true] at bc
   obtain ⟨⟨⟨h0,h1⟩,h2⟩,_⟩:=bc
   obtain ⟨k1,k2⟩:=aJ5 w ht hi (hg x (by simpa using h0)) (Jd hg lo h1) (Jd hg iM h2)
   exact ⟨v,by simp [execOp,ho,k1],k2⟩
  ·rename_i e ht
   split at hc
   ·rename_i hk
    simp at hc;subst hc
    simp only [Op.operands,Array.all_append,and_eq_true] at bc
    obtain ⟨⟨⟨h0,h1⟩,h2⟩,_⟩:=bc
    obtain ⟨v',k1,k2⟩:=aJ6 w hH ht hk hi (hg x (by simpa using h0)) (Jd hg lo h1) (Jd hg iM h2)
    exact ⟨v',by simp [execOp,ho,k1],k2⟩
   ·cases hc
  ·cases hc
 | nilCheck x=>
  rw [ho] at hc bc
  simp [jM] at hc;subst hc
  simp [Op.operands] at bc
  exact aJ3 w ho hi (hg x bc)
 | makeFunc fn first captured=>
  rw [ho] at hc bc
  cases fn with
  | func f=>
   simp [jM] at hc;subst hc
   simp only [Op.operands,Array.all_append,and_eq_true] at bc
   simp [kn] at hi;subst hi
   have h1:=dw.zo hg (xs:=first.toList) (by simpa using bc.1)
   have h2:=dw.zo hg (xs:=captured.toList) (by simpa using bc.2)
   refine ⟨.func (.func f) (first.map g') (captured.map g'),by simp [execOp,ho,Instr.makeFunc],?_⟩
   refine .func f (by simp) (by simp) ?_ ?_
   ·have:=h1.ofList
    simpa using this
   ·have:=h2.ofList
    simpa using this
  | _=>simp [jM] at hc
 | extract x i=>
  rw [ho] at hc bc
  simp [jM] at hc;subst hc
  simp [Op.operands] at bc
  obtain ⟨v',h1,h2⟩:=aJP (P:=P) w hi (hg x bc)
  exact ⟨v',by simp [execOp,ho,h1],h2⟩
 | build t parts=>
  rw [ho] at hc bc
  simp only [jM] at hc
  simp only [Op.operands] at bc
  have hq:∀q∈parts.toList,kF q.2=true:=by
   intro q hm
   rw [Array.all_eq_true'] at bc
   exact bc q.2 (by simp;exact ⟨q.1,by simpa using hm⟩)
  split at hc
  ·rename_i fs zs ht hz
   split at hc
   ·rename_i hk
    split at hc
    ·rename_i ps Qv
     simp at hc;subst hc
     have hp:=amG hg ((placesOf P fs)[·]?) parts.toList ps Qv hq
     have fN:∀f∈fs.toList,jF P f.type=true:=by
      rw [Array.all_eq_true'] at hk
      intro f hf
      exact hk f (by simpa using hf)
     obtain ⟨v',h1,h2⟩:=aJK w ht hz fN (qs:=parts.map λ(i,x)=>(i,g' x)) (by simpa using hp) hi
     exact ⟨v',by simp [execOp,ho,h1],h2⟩
    ·cases hc
   ·cases hc
  ·rename_i n e zs ht hz
   split at hc
   ·rename_i hk
    simp at hc;subst hc
    have hp:=Ul hg (λi=>(i*P.cellsOf e,P.cellsOf e)) parts.toList hq
    obtain ⟨v',h1,h2⟩:=aJJ w ht hz hk (qs:=parts.map λ(i,x)=>(i,g' x)) (by simpa using hp) hi
    exact ⟨v',by simp [execOp,ho,h1],h2⟩
   ·cases hc
  ·cases hc
 | call c=>
  rw [ho] at hc bc
  obtain ⟨callee,args,argTypes⟩:=c
  cases callee with
  | builtin b=>
   simp only [Op.operands,Call.operands,Array.empty_append] at bc
   have tu:=dw.zo hg (xs:=args.toList) (by simpa using bc)
   have fin:∀v',(∀Ay,(builtin b argTypes o.type Ay (args.map g')).run P w=.ok (.value v') w)->(execOp g' o).run P w=.ok (.value v') w:=by
    intro v' h
    simp [execOp,ho,resolve,invoke,h]
   cases b with
   | len=>
    simp only [jM] at hc
    split at hc
    ·rename_i x t hx vm
     obtain rfl:args=#[x]:=ext' hx
     obtain rfl:argTypes=#[t]:=ext' vm
     simp at bc
     have hr:=hg x bc
     split at hc
     ·rename_i ht
      simp at hc;subst hc
      simp only [kn,wU] at hi
      split at hi
      ·rename_i s hs
       rw [hs] at hr
       simp at hi;subst hi
       refine ⟨_,fin _ ?_,.int _ _⟩
       intro Ay
       simp [builtin,Builtin.len_,run_underlying ht,hr.vO,goInt,DW]
      ·cases hi
     ·rename_i e ht
      simp at hc;subst hc
      simp only [kn,aT] at hi
      split at hi
      ·rename_i a n c hs
       rw [hs] at hr
       simp at hi;subst hi
       refine ⟨_,fin _ ?_,.int _ _⟩
       intro Ay
       generalize hy:g' x=y at hr
       cases hr <;> simp [builtin,Builtin.len_,run_underlying ht,hy,goInt]
      ·cases hi
     ·rename_i n e ht
      simp at hc;subst hc
      simp [kn] at hi;subst hi
      refine ⟨_,fin _ ?_,.int _ _⟩
      intro Ay
      simp [builtin,Builtin.len_,run_underlying ht,goInt]
     ·cases hc
    ·cases hc
   | min=>
    simp [jM] at hc;subst hc
    simp only [kn,lI] at hi
    split at hi
    ·rename_i k n rest hl
     rw [hl] at tu
     generalize hy:args.toList.map g'=ys at tu
     cases tu with
     | cons h1 h2=>
      rename_i y0 ys0
      have e:=h1.kT
      subst e
      obtain ⟨k1,k2⟩:=UP (P:=P) w hi h2
      refine ⟨v,fin v ?_,k2⟩
      intro Ay
      simp only [builtin,Sem.run_bind,Builtin.min_,Array.toList_map,hy]
      simp at k1
      rw [k1]
      rfl
    ·cases hi
   | max=>
    simp [jM] at hc;subst hc
    simp only [kn,lI] at hi
    split at hi
    ·rename_i k n rest hl
     rw [hl] at tu
     generalize hy:args.toList.map g'=ys at tu
     cases tu with
     | cons h1 h2=>
      rename_i y0 ys0
      have e:=h1.kT
      subst e
      obtain ⟨k1,k2⟩:=UP (P:=P) w hi h2
      refine ⟨v,fin v ?_,k2⟩
      intro Ay
      simp only [builtin,Sem.run_bind,Builtin.max_,Array.toList_map,hy]
      simp at k1
      rw [k1]
      rfl
    ·cases hi
   | _=>simp [jM] at hc
  | value y=>
   cases y with
   | func f=>
    simp only [jM] at hc
    split at hc
    ·rename_i x c hx
     split at hc
     ·rename_i hf
      simp at hc;subst hc
      obtain rfl:args=#[x,c]:=ext' hx
      simp [Op.operands,Call.operands] at bc
      simp only [kn] at hi
      split at hi
      ·rename_i f' a b hgf
       split at hi
       ·rename_i gQ
        obtain ⟨rfl,ha,hb⟩:=gQ
        obtain rfl:=Array.eq_empty_of_size_eq_zero ha
        obtain rfl:=Array.eq_empty_of_size_eq_zero hb
        have h0:=hg (.func f') bc.1
        rw [hgf] at h0
        generalize hy:g' (.func f')=y at h0
        cases h0 with
        | func _ s1 s2 _ _=>
         rename_i iA mJ
         obtain rfl:=Array.eq_empty_of_size_eq_zero s1.symm
         obtain rfl:=Array.eq_empty_of_size_eq_zero s2.symm
         simp only [afv] at hi
         split at hi
         ·rename_i s n hs hn
          injection hi with hi
          subst hi
          have h1:=hg x bc.2.1
          have h2:=hg c bc.2.2
          rw [hs] at h1
          rw [hn] at h2
          have e1:=h1.vO
          have e2:=h2.kT
          refine ⟨_,?_,.int _ _⟩
          obtain ⟨fn,q1,q2,q3,q4,q5⟩:=aAb hf
          have:=run_callFunc_extern (P:=P) q1 q2 q3 q4 q5 #[.string s,.int .u8 n] w
          simp [execOp,ho,resolve,Deferred.ofValue,invoke,hy,e1,e2]
          rw [this,Lib.run_indexByteString]
          rfl
         ·cases hi
       ·cases hi
      ·cases hi
     ·cases hc
    ·cases hc
   | _=>simp [jM] at hc
  | _=>simp [jM] at hc
 | _=>rw [ho] at hc;simp [jM] at hc
end
end
section
theorem ja.mono {ρ aN:bk} (h:ρ.le aN) {c:Array Value} {sh:Nat} {xs:List Value} (hc:ja ρ c sh xs):ja aN c sh xs:=by
 intro j x hj
 obtain ⟨h1,y,hy,hr⟩:=hc j x hj
 exact ⟨h1,y,hy,hr.mono h⟩
theorem oO.mono {ρ aN:bk} {w w':World} {r:RI} {o:az} (hle:ρ.le aN) (hw:w'.heap[r.cZ]?=w.heap[r.cZ]?) (h:oO ρ w r o):oO aN w' r o:=by
 cases o with
 | ro e xs=>
  obtain ⟨h1,c,t,fr,h2,h3,h4⟩:=h
  exact ⟨h1,c,t,fr,by rw [hw];exact h2,h3,h4.mono hle⟩
 | arr e xs=>
  obtain ⟨h1,h0,c,h2,h3,h4⟩:=h
  exact ⟨h1,h0,c,by rw [hw];exact h2,h3,h4.mono hle⟩
 | smap es=>
  obtain ⟨bn,clock,h1,h2,h3⟩:=h
  refine ⟨bn,clock,by rw [hw];exact h1,h2,?_⟩
  intro j k v hj
  obtain ⟨en,he,hk,hv⟩:=h3 j k v hj
  exact ⟨en,he,hk,hv.mono hle⟩
 | mT kd es=>
  obtain ⟨bn,clock,h1,h2,h3⟩:=h
  refine ⟨bn,clock,by rw [hw];exact h1,h2,?_⟩
  intro j k v hj
  obtain ⟨en,he,hk,hv⟩:=h3 j k v hj
  exact ⟨en,he,hk,hv.mono hle⟩
 | jQ g c es=>
  obtain ⟨h0,bn,h1,h2,h3⟩:=h
  refine ⟨h0,bn,by rw [hw];exact h1,h2,?_⟩
  intro j b k v hj
  obtain ⟨hg,en,he,hk,hb,hv⟩:=h3 j b k v hj
  exact ⟨hg,en,he,hk,hb,hv.mono hle⟩
 | iter m s n l=>
  obtain ⟨h0,rm,h1,h2⟩:=h
  exact ⟨h0,rm,hle _ _ h1,by rw [hw];exact h2⟩
 | loop c ls vs=>
  obtain ⟨rec,h1,h2,h3,h4,h5,h6,h7,h8⟩:=h
  exact ⟨rec,by rw [hw];exact h1,h2,h3,h4,h5,h6,h7,λt=>(h8 t).mono hle⟩
 | dead=>trivial
def bk.add (ρ:bk) (i:Nat) (r:RI):bk:=λj=>if j=i then some r else ρ j
theorem bk.vE {ρ:bk} {i:Nat} {r:RI} (h:ρ i=none):ρ.le (ρ.add i r):=by
 intro j s hj
 unfold bk.add
 split
 ·rename_i e;subst e;rw [h] at hj;cases hj
 ·exact hj
theorem bN.none {P:Program} {ρ:bk} {h:ae} {w:World} (H:bN P ρ h w):ρ h.length=none:=by
 cases hr:ρ h.length with
 | none=>rfl
 | some r=>exact absurd (H.lt hr) (Nat.lt_irrefl _)
theorem Ja {P:Program} {ρ:bk} {h:ae} {w:World} (H:bN P ρ h w) {i:Nat} {r:RI} (hi:ρ i=some r) (hl:jH h i):r.cZ<w.heap.size:=by
 obtain ⟨o,ho,hr⟩:=H.obj i r hi
 obtain ⟨o',fU,bY⟩:=hl
 rw [ho] at fU
 cases fU
 have key:∀{x:Obj},w.heap[r.cZ]?=some x->r.cZ<w.heap.size:=λh=>(Array.getElem?_eq_some_iff.1 h).1
 cases o with
 | ro e xs=>obtain ⟨_,c,_,fr,h2,_⟩:=hr;exact key h2
 | arr e xs=>obtain ⟨_,_,c,h2,_⟩:=hr;exact key h2
 | smap es=>obtain ⟨bn,clock,h1,_⟩:=hr;exact key h1
 | mT kd es=>obtain ⟨bn,clock,h1,_⟩:=hr;exact key h1
 | jQ g c es=>obtain ⟨_,bn,h1,_⟩:=hr;exact key h1
 | iter m s n l=>obtain ⟨_,rm,_,h1⟩:=hr;exact key h1
 | loop c ls vs=>obtain ⟨rec,h1,_⟩:=hr;exact key h1
 | dead=>exact absurd rfl bY
structure kJ (w:World) (b:Obj) (w':World):Prop where
 heap:w'.heap=w.heap.push b
 os:w'.os=w.os
 tape:w'.tape=w.tape
 output:w'.output=w.output
 drawn:w.drawn<=w'.drawn
theorem kJ.alloc (w:World) (b:Obj):kJ w b (w.alloc b):=⟨rfl,rfl,rfl,rfl,le_refl _⟩
theorem kJ.drew (w:World) (b:Obj):kJ w b (w.drew.alloc b):=⟨rfl,rfl,rfl,rfl,Nat.le_succ _⟩
theorem kJ.old {w w':World} {b:Obj} (n:kJ w b w') {k:Nat} (h:k<w.heap.size):w'.heap[k]?=w.heap[k]?:=by
 rw [n.heap,Array.getElem?_push,if_neg (by omega)]
theorem kJ.new {w w':World} {b:Obj} (n:kJ w b w'):w'.heap[w.heap.size]?=some b:=by
 rw [n.heap,Array.getElem?_push,if_pos rfl]
theorem kJ.size {w w':World} {b:Obj} (n:kJ w b w'):w'.heap.size=w.heap.size+1:=by
 rw [n.heap];simp
theorem bN.new {P:Program} {ρ:bk} {h h₀:ae} {w w':World} {b:Obj} {r:RI} {o:az} (H:bN P ρ h w) (nb:kJ w b w') (hb:r.cZ=w.heap.size) (he:r.esz=P.cellsOf r.elem)
  (hk:h₀.length=h.length) (hd:∀i:Nat,h₀[i]?=h[i]?∨h₀[i]?=some az.dead)
  (ho:oO (ρ.add h.length r) w' r o):bN P (ρ.add h.length r) (h₀++[o]) w'/\Tr ρ h w (ρ.add h.length r) (h₀++[o]) w':=by
 have hle:=bk.vE (r:=r) H.none
 have jD:∀i,i<h.length->fB (h₀++[o]) i->fB h i:=by
  intro i hi hm
  unfold fB at hm⊢
  rw [getElem?_append_left (by omega)] at hm
  rcases hd i with e | e <;> rw [e] at hm
  ·exact hm
  ·rcases hm with ⟨_,_,hm⟩ | ⟨_,hm⟩ | ⟨_,_,_,hm⟩ | ⟨_,_,hm⟩ | ⟨_,_,_,hm⟩ | ⟨_,_,_,_,hm⟩ <;> cases hm
 have yI:∀i,i<h.length->jH (h₀++[o]) i->jH h i:=by
  intro i hi hm
  unfold jH at hm⊢
  rw [getElem?_append_left (by omega)] at hm
  rcases hd i with e | e <;> rw [e] at hm
  ·exact hm
  ·obtain ⟨o',h1,h2⟩:=hm;cases h1;exact absurd rfl h2
 have cZ:∀i s,ρ i=some s->jH (h₀++[o]) i->s.cZ<w.heap.size:=λi s hi hl=>Ja H hi (yI i (H.lt hi) hl)
 constructor
 ·constructor
  ·intro i s hi
   unfold bk.add at hi
   split at hi
   ·rename_i e
    subst e
    cases hi
    refine ⟨o,?_,ho⟩
    rw [<-hk]
    simp
   ·obtain ⟨o',fU,hr⟩:=H.obj i s hi
    have aw:=H.lt hi
    rw [getElem?_append_left (by omega)]
    rcases hd i with e | e
    ·refine ⟨o',by rw [e];exact fU,?_⟩
     by_cases wI:o'=.dead
     ·subst wI;trivial
     ·exact hr.mono hle (nb.old (Ja H hi ⟨o',fU,wI⟩))
    ·exact ⟨.dead,e,trivial⟩
  ·intro i j s t hi hj ju hm hl
   unfold bk.add at hi hj
   split at hi <;> split at hj
   ·omega
   ·rename_i e1 e2
    cases hi
    have:=cZ j t hj hl
    omega
   ·rename_i e1 e2
    cases hj
    have:=cZ i s hi hm.live
    omega
   ·exact H.inj i j s t hi hj ju (jD i (H.lt hi) hm) (yI j (H.lt hj) hl)
  ·intro i s hi
   unfold bk.add at hi
   split at hi
   ·cases hi;exact he
   ·exact H.esz i s hi
 ·exact {
   ext:=hle
   len:=by simp;omega
   mo:=λi s hi=>H.lt hi
   kinds:=jD
   fresh:=by
    intro i s hi hn
    unfold bk.add at hi
    split at hi
    ·rename_i e;cases hi;exact ⟨by omega,.inl (by omega)⟩
    ·rw [hn] at hi;cases hi
   kN:=by rw [nb.size];omega
   kY:=λk fN _=>nb.old fN
   os:=nb.os
   tape:=nb.tape
   output:=nb.output
   drawn:=nb.drawn }
structure lP (w:World) (k:Nat) (b:Obj) (w':World):Prop where
 here:w'.heap[k]?=some b
 other:∀j,j≠k->w'.heap[j]?=w.heap[j]?
 size:w'.heap.size=w.heap.size
 os:w'.os=w.os
 tape:w'.tape=w.tape
 output:w'.output=w.output
 drawn:w.drawn<=w'.drawn
theorem lP.row {w:World} {g:Nat} {c:Array Value} {e:TypeId} {fr:Nat×Nat} (hg:w.heap[g]?=some (.cells c e fr)) (c':Array Value):lP w g (.cells c' e fr) (w.setRow g c') where
 here:=by simp [World.setRow,Array.getElem?_modify,hg]
 other:=by intro j hj;simp [World.setRow,Array.getElem?_modify,Ne.symm hj]
 size:=by simp [World.setRow]
 os:=rfl
 tape:=rfl
 output:=rfl
 drawn:=le_refl _
theorem bN.set {P:Program} {ρ:bk} {h:ae} {w w':World} {b:Obj} {i:Nat} {r:RI} {o:az} (H:bN P ρ h w) (hi:ρ i=some r) (hm:fB h i) (sb:lP w r.cZ b w')
  (ho:oO ρ w' r o):bN P ρ (h.set i o) w'/\Tr ρ h w ρ (h.set i o) w':=by
 have aw:=H.lt hi
 have jD:∀j,fB (h.set i o) j->fB h j:=by
  intro j hj
  by_cases e:j=i
  ·subst e;exact hm
  ·unfold fB at hj⊢
   rw [getElem?_set_ne (Ne.symm e)] at hj
   exact hj
 have yI:∀j,jH (h.set i o) j->jH h j:=by
  intro j hj
  by_cases e:j=i
  ·subst e;exact hm.live
  ·unfold jH at hj⊢
   rw [getElem?_set_ne (Ne.symm e)] at hj
   exact hj
 constructor
 ·constructor
  ·intro j s hj
   by_cases e:j=i
   ·subst e
    rw [hi] at hj
    cases hj
    exact ⟨o,by rw [List.getElem?_set_self aw],ho⟩
   ·obtain ⟨o',fU,hr⟩:=H.obj j s hj
    refine ⟨o',by rw [getElem?_set_ne (Ne.symm e)];exact fU,?_⟩
    by_cases wI:o'=.dead
    ·subst wI;trivial
    ·refine hr.mono (.refl _) (sb.other _ ?_)
     intro hb
     exact e (H.inj i j r s hi hj hb.symm hm ⟨o',fU,wI⟩).symm
  ·intro j k s t hj hk ju kk hl
   exact H.inj j k s t hj hk ju (jD j kk) (yI k hl)
  ·exact H.esz
 ·exact {
   ext:=.refl _
   len:=by simp
   mo:=λj s hj=>H.lt hj
   kinds:=λj _ hj=>jD j hj
   fresh:=λj s h1 h2=>by rw [h1] at h2;cases h2
   kN:=by rw [sb.size];exact le_refl _
   kY:=λk _ jR=>sb.other k λe=>jR i r hi e.symm hm
   os:=sb.os
   tape:=sb.tape
   output:=sb.output
   drawn:=sb.drawn }
theorem bN.move {P:Program} {ρ:bk} {h:ae} {w w':World} {b:Obj} {i:Nat} {r:RI} {o:az} (H:bN P ρ h w) (hi:ρ i=some r) (hm:fB h i) (sb:lP w r.cZ b w')
  (ho:oO (ρ.add h.length r) w' r o):bN P (ρ.add h.length r) (h.set i .dead++[o]) w'/\Tr ρ h w (ρ.add h.length r) (h.set i .dead++[o]) w':=by
 have aw:=H.lt hi
 have hle:=bk.vE (r:=r) H.none
 have get:∀j,j<h.length->j≠i->(h.set i .dead++[o])[j]?=h[j]?:=by
  intro j hj e
  rw [getElem?_append_left (by simpa using hj),getElem?_set_ne (Ne.symm e)]
 have PJ:(h.set i .dead++[o])[i]?=some .dead:=by
  rw [getElem?_append_left (by simpa using aw),List.getElem?_set_self aw]
 have jD:∀j,j<h.length->fB (h.set i .dead++[o]) j->fB h j/\j≠i:=by
  intro j hj kk
  have bY:j≠i:=by
   intro e
   subst e
   unfold fB at kk
   rw [PJ] at kk
   rcases kk with ⟨_,_,h1⟩ | ⟨_,h1⟩ | ⟨_,_,_,h1⟩ | ⟨_,_,h1⟩ | ⟨_,_,_,h1⟩ | ⟨_,_,_,_,h1⟩ <;> cases h1
  refine ⟨?_,bY⟩
  unfold fB at kk⊢
  rw [get j hj bY] at kk
  exact kk
 have yI:∀j,j<h.length->jH (h.set i .dead++[o]) j->jH h j/\j≠i:=by
  intro j hj kk
  have bY:j≠i:=by
   intro e
   subst e
   obtain ⟨o',h1,h2⟩:=kk
   rw [PJ] at h1
   cases h1
   exact h2 rfl
  refine ⟨?_,bY⟩
  unfold jH at kk⊢
  rw [get j hj bY] at kk
  exact kk
 constructor
 ·constructor
  ·intro j s hj
   unfold bk.add at hj
   split at hj
   ·rename_i e
    subst e
    cases hj
    exact ⟨o,by rw [List.getElem?_append_right (by simp)];simp,ho⟩
   ·by_cases e:j=i
    ·subst e
     exact ⟨.dead,PJ,trivial⟩
    ·obtain ⟨o',fU,hr⟩:=H.obj j s hj
     refine ⟨o',by rw [get j (H.lt hj) e];exact fU,?_⟩
     by_cases wI:o'=.dead
     ·subst wI;trivial
     ·refine hr.mono hle (sb.other _ ?_)
      intro hb
      exact e (H.inj i j r s hi hj hb.symm hm ⟨o',fU,wI⟩).symm
  ·intro j k s t hj hk ju kk hl
   unfold bk.add at hj hk
   split at hj <;> split at hk
   ·omega
   ·cases hj
    obtain ⟨h1,h2⟩:=yI k (H.lt hk) hl
    exact absurd (H.inj i k r t hi hk ju hm h1).symm h2
   ·cases hk
    obtain ⟨h1,h2⟩:=jD j (H.lt hj) kk
    exact absurd (H.inj j i s r hj hi ju h1 hm.live) h2
   ·exact H.inj j k s t hj hk ju (jD j (H.lt hj) kk).1 (yI k (H.lt hk) hl).1
  ·intro j s hj
   unfold bk.add at hj
   split at hj
   ·cases hj;exact H.esz i r hi
   ·exact H.esz j s hj
 ·exact {
   ext:=hle
   len:=by simp
   mo:=λj s hj=>H.lt hj
   kinds:=λj hj kk=>(jD j hj kk).1
   fresh:=by
    intro j s hj hn
    unfold bk.add at hj
    split at hj
    ·rename_i e;cases hj;exact ⟨by omega,.inr ⟨i,r,hi,rfl,hm⟩⟩
    ·rw [hn] at hj;cases hj
   kN:=by rw [sb.size];exact le_refl _
   kY:=λk _ jR=>sb.other k λe=>jR i r hi e.symm hm
   os:=sb.os
   tape:=sb.tape
   output:=sb.output
   drawn:=sb.drawn }
end
section
inductive qM where
 | load (agg:Bool) (n:Nat) (a:Operand)
 | xR (x:Operand)
 | lookup (ok:Bool) (zero:Value) (m k:Operand)
 | IS (kd:IntKind) (ok:Bool) (zero:Value) (m k:Operand)
 | IQ (g:jc) (ok:Bool) (zero:Value) (m k:Operand)
 | entry (it:Operand)
 | obj (x:Operand)
inductive nj where
 | alloc (e:TypeId) (zs:List Value)
 | oa (e:TypeId) (n:Nat) (zs:List Value) (parts:List (Nat×Nat×Operand))
 | make (e:TypeId) (bytes:Nat) (zs:List Value) (l c:Operand)
 | pD (g:jc)
inductive pM where
 | fl (a:nj)
 | store (n:Nat) (a v:Operand)
 | box (e:TypeId) (x:Operand)
 | alloc (e:TypeId) (zs:List Value)
 | oa (e:TypeId) (n:Nat) (zs:List Value) (parts:List (Nat×Nat×Operand))
 | make (e:TypeId) (bytes:Nat) (zs:List Value) (l c:Operand)
 | app (e:TypeId) (esz bytes:Nat) (s x:Operand)
 | mkMap
 | IY (kd:IntKind)
 | pD (g:jc)
 | RK (g:jc) (m k v:Operand)
 | Pd (g:jc) (m k:Operand)
 | UF (x:Operand)
 | next (it:Operand)
 | die
 | RL (kd:IntKind) (m k v:Operand)
 | RJ (m k v:Operand)
 | copy (d s:Operand)
 | O6 (k:Nat) (d s:Operand)
def bw (h:ae) (i:Nat):Option (List Value):=
 match h[i]? with
 | some (.ro _ xs)=>some xs
 | some (.arr _ xs)=>some xs
 | _=>none
def af (agg:Bool) (n:Nat) (h:ae) (a:Value):Option Value:=
 match a with
 | .pointer (some ⟨i,o,none⟩)=>(bw h i).bind λxs=>dS agg o n xs
 | _=>none
def B1:Value->Option UInt8
 | .int .u8 n=>some (UInt8.ofNat n.toNat)
 | _=>none
def fx (h:ae) (esz:Nat) (x:Value):Option (List Value):=
 match x with
 | .slice none 0 0=>some []
 | .slice (some ⟨i,o,some _⟩) n _=>
  if n=0 then some [] else (bw h i).bind λxs=>if o+n*esz<=xs.length then some ((xs.drop o).take (n*esz)) else none
 | _=>none
def ry (h:ae) (x:Value):Option Value:=(fx h 1 x).bind λcs=>(cs.mapM B1).map S
def uM (k:ByteArray):List (ByteArray×Value)->Option Value
 | []=>none
 | (k',v)::es=>if k=k' then some v else uM k es
def sJ (k:ByteArray) (v:Value):List (ByteArray×Value)->List (ByteArray×Value)
 | []=>[(k,v)]
 | (k',v')::es=>if k=k' then (k',v)::es else (k',v')::sJ k v es
def uL (k:Int):List (Int×Value)->Option Value
 | []=>none
 | (k',v)::es=>if k=k' then some v else uL k es
def sI (k:Int) (v:Value):List (Int×Value)->List (Int×Value)
 | []=>[(k,v)]
 | (k',v')::es=>if k=k' then (k',v)::es else (k',v')::sI k v es
def IB (kd:IntKind) (ok:Bool) (zero:Value) (h:ae) (m k:Value):Option Value:=
 match m,k with
 | .map (some i),.int Bc k=>
  match h[i]? with
  | some (.mT nY es)=>if Bc=kd/\nY=kd then some (if ok then .tuple #[(uL k es).getD zero,.bool (uL k es).isSome] else (uL k es).getD zero) else none
  | _=>none
 | _,_=>none
def A7:Value->Value->Bool
 | .int k a,.int k' b=>decide (k=k')&&decide (a=b)
 | _,_=>false
def A8:List Value->List Value->Bool
 | [],[]=>true
 | a::wk,b::bs=>A7 a b&&A8 wk bs
 | _,_=>false
def wC:Value->Value->Bool
 | .string a,.string b=>decide (bytes a=bytes b)
 | .agg wk,.agg bs=>A8 wk.toList bs.toList
 | a,b=>A7 a b
def rH (k:Value):List (Nat×Value×Value)->Option Nat
 | []=>none
 | (_,k',_)::es=>if wC k k'=true then some 0 else (rH k es).map (·+1)
def yf (k:Value) (es:List (Nat×Value×Value)):Option Value:=(rH k es).bind λj=>(es[j]?).map λe=>e.2.2
def zG (c:Nat) (k v:Value) (es:List (Nat×Value×Value)):List (Nat×Value×Value):=
 match rH k es with
 | some j=>es.modify j λe=>(e.1,k,v)
 | none=>es++[(c,k,v)]
def xZ (c:Nat) (k:Value) (es:List (Nat×Value×Value)):Nat:=match rH k es with | some _=>c | none=>c+1
def ye (k:Value) (es:List (Nat×Value×Value)):List (Nat×Value×Value):=
 match rH k es with
 | some j=>es.eraseIdx j
 | none=>es
def IA (g:jc) (ok:Bool) (zero:Value) (h:ae) (m k:Value):Option Value:=
 match m with
 | .map (some i)=>
  match h[i]? with
  | some (.jQ g' _ es)=>if g'=g/\iF g k=true then some (if ok then .tuple #[(yf k es).getD zero,.bool (yf k es).isSome] else (yf k es).getD zero) else none
  | _=>none
 | _=>none
def Q1 (g:jc) (h:ae) (m k v:Value):Option ae:=
 match m with
 | .map (some i)=>
  match h[i]? with
  | some (.jQ g' c es)=>if g'=g/\iF g k=true/\fV v=true then some (h.set i (.jQ g (xZ c k es) (zG c k v es))) else none
  | _=>none
 | _=>none
def QX (g:jc) (h:ae) (m k:Value):Option ae:=
 match m with
 | .map (some i)=>
  match h[i]? with
  | some (.jQ g' c es)=>if g'=g/\iF g k=true then some (h.set i (.jQ g c (ye k es))) else none
  | _=>none
 | _=>none
def Q3 (h:ae) (x:Value):Option (Value×ae):=
 match x with
 | .map (some i)=>
  match h[i]? with
  | some (.jQ _ c _)=>some (.pointer (some ⟨h.length,0,none⟩),h++[.iter i c [] c])
  | _=>none
 | _=>none
def Iy (h:ae) (it:Value):Option Value:=
 match it with
 | .pointer (some ⟨j,0,none⟩)=>
  match h[j]? with
  | some (.iter i _ seen last)=>
   match h[i]?,seen.getLast? with
   | some (.jQ _ c es),some b=>if c=last then (es.find? λe=>e.1==b).map λe=>.tuple #[e.2.1,e.2.2] else none
   | _,_=>none
  | _=>none
 | _=>none
def Du:Value->Bool
 | .bool _ | .int .. | .string _ | .nilFunc | .nilIface=>true
 | .pointer none | .map none=>true
 | .slice none 0 0=>true
 | _=>false
def Cw:jc->Value
 | .int k=>.int k 0
 | .str=>.bool true
 | .ints n k=>.agg #[.int k n]
def qz (i:Nat) (x:Value):Bool:=
 Du x||(match x with | .slice (some ⟨k,_,_⟩) _ _=>decide (k<i) | _=>false)
@[simp] theorem aMY (i : Nat) (k : IntKind) (z : Int) : qz i (.int k z) = true := rfl
@[simp] theorem aMX (i : Nat) (b : Bool) : qz i (.bool b) = true := rfl
@[simp] theorem aM0 (i : Nat) (s) : qz i (.string s) = true := rfl
@[simp] theorem aMZ (i : Nat) : qz i (.slice none 0 0) = true := rfl
def mN (i:Nat):az->Option Value
 | .arr e xs=>if xs.all (qz i) then some (.agg (.int .i64 e::xs).toArray) else none
 | .jQ g c es=>if c=0/\es.isEmpty=true then some (.tuple #[Cw g]) else none
 | _=>none
def vA:Value->Option Nat
 | .pointer (some ⟨i,_,none⟩)=>some i
 | .slice (some ⟨i,_,_⟩) _ _=>some i
 | .map (some i)=>some i
 | _=>none
def eA (h:ae) (x:Value):Option Value:=(vA x).bind λi=>(h[i]?).bind (mN i)
def Iz (ok:Bool) (zero:Value) (h:ae) (m k:Value):Option Value:=
 match m,k with
 | .map (some i),.string k=>
  match h[i]? with
  | some (.smap es)=>some (if ok then .tuple #[(uM k es).getD zero,.bool (uM k es).isSome] else (uM k es).getD zero)
  | _=>none
 | _,_=>none
def ie (o:qM) (g:Operand->Value) (h:ae):Option Value:=
 match o with
 | .load agg n a=>af agg n h (g a)
 | .xR x=>ry h (g x)
 | .lookup ok zero m k=>Iz ok zero h (g m) (g k)
 | .IS kd ok zero m k=>IB kd ok zero h (g m) (g k)
 | .IQ kd ok zero m k=>IA kd ok zero h (g m) (g k)
 | .entry it=>Iy h (g it)
 | .obj x=>eA h (g x)
def sw (n:Nat) (h:ae) (a v:Value):Option ae:=
 match a with
 | .pointer (some ⟨i,o,none⟩)=>
  match h[i]? with
  | some (.arr e xs)=>if fV v/\(dL v).length=n/\o+n<=xs.length then some (h.set i (.arr e (setAt xs o (dL v)))) else none
  | _=>none
 | _=>none
def Bk (h:ae):Value:=.pointer (some ⟨h.length,0,none⟩)
def sl (e:TypeId) (i o n:Nat):Value:=.slice (some ⟨i,o,some e⟩) n n
def cR (e:TypeId) (h:ae) (x:Value):Option (Value×ae):=if fV x then some (Bk h,h++[.arr e (dL x)]) else none
def bE (zs:List Value) (n:Nat):List Value:=(List.replicate n zs).flatten
def cH (e:TypeId) (n:Nat) (zs:List Value) (h:ae) (ps:List (Nat×Nat×Value)):Option (Value×ae):=
 (jC (bE zs n) ps).map λcs=>(sl e h.length 0 n,h++[.arr e cs])
def eM (e:TypeId) (bytes:Nat) (zs:List Value) (h:ae) (l c:Value):Option (Value×ae):=
 match l,c with
 | .int _ l,.int _ c=>if 0<=l/\l<=c/\(bytes:Int)*c<=281474976710656/\c<=9223372036854775807 then some (sl e h.length 0 l.toNat,h++[.arr e (bE zs l.toNat)]) else none
 | _,_=>none
def iY:Value->Option Nat
 | .slice none 0 0=>some 0
 | .slice (some _) n _=>some n
 | _=>none
def cT (e:TypeId) (esz bytes:Nat) (h:ae) (s x:Value):Option (Value×ae):=
 match fx h esz x,iY x with
 | some news,some m=>
  match s with
  | .slice none 0 0=>
   if m=0 then some (s,h) else
   if m*bytes<=140737488355328/\m<=maxLen then some (sl e h.length 0 m,h++[.arr e news]) else none
  | .slice (some ⟨i,0,some e'⟩) n c=>
   match h[i]? with
   | some (.arr Ph xs)=>
    if e'=e/\Ph=e/\xs.length=n*esz/\(n+m)*bytes<=140737488355328/\n+m<=maxLen then
     if m=0 then some (s,h) else some (sl e h.length 0 (n+m),h.set i .dead++[.arr e (xs++news)])
    else if e'=e/\Ph=e/\m≠0/\n+m<=c/\(n+m)*esz<=xs.length then some (.slice (some ⟨i,0,some e⟩) (n+m) c,h.set i (.arr e (setAt xs (n*esz) news)))
    else none
   | _=>none
  | _=>none
 | _,_=>none
def Q0 (h:ae) (m k v:Value):Option ae:=
 match m,k with
 | .map (some i),.string k=>
  match h[i]? with
  | some (.smap es)=>some (h.set i (.smap (sJ k v es)))
  | _=>none
 | _,_=>none
def Q2 (kd:IntKind) (h:ae) (m k v:Value):Option ae:=
 match m,k with
 | .map (some i),.int Bc k=>
  match h[i]? with
  | some (.mT nY es)=>if Bc=kd/\nY=kd then some (h.set i (.mT kd (sI k v es))) else none
  | _=>none
 | _,_=>none
def aU (n:Nat) (h:ae) (a v:Value):Option (Value×ae):=(sw n h a v).map λh'=>(undef,h')
def cF (e:TypeId) (zs:List Value) (h:ae):Option (Value×ae):=some (Bk h,h++[.arr e zs])
def sv (h:ae) (d s:Value):Option (Value×ae):=
 match iY d,iY s,fx h 1 s with
 | some n,some m,some cs=>
  if Nat.min m n=0 then some (.int .i64 0,h) else
  match d with
  | .slice (some ⟨i,o,some _⟩) _ _=>
   match h[i]? with
   | some (.arr e xs)=>if o+Nat.min m n<=xs.length then some (.int .i64 (Nat.min m n:Nat),h.set i (.arr e (setAt xs o (cs.take (Nat.min m n))))) else none
   | _=>none
  | _=>none
 | _,_,_=>none
def rA (k:Nat) (h:ae) (d s:Value):Option (Value×ae):=
 match iY d,iY s,fx h k s with
 | some n,some m,some cs=>
  if Nat.min m n=0 then some (.int .i64 0,h) else
  match d with
  | .slice (some ⟨i,o,some _⟩) _ _=>
   match h[i]? with
   | some (.arr e xs)=>if o+Nat.min m n*k<=xs.length then some (.int .i64 (Nat.min m n:Nat),h.set i (.arr e (setAt xs o (cs.take (Nat.min m n*k))))) else none
   | _=>none
  | _=>none
 | _,_,_=>none
def iR (o:pM) (g:Operand->Value) (h:ae):Option (Value×ae):=
 match o with
 | .fl a=>match a with
  | .alloc e zs=>some (Bk h,h++[.arr e zs])
  | .oa e n zs ps=>cH e n zs h (ps.map λ(o,s,x)=>(o,s,g x))
  | .make e bytes zs l c=>eM e bytes zs h (g l) (g c)
  | .pD kd=>some (.map (some h.length),h++[.jQ kd 0 []])
 | .store n a v=>(sw n h (g a) (g v)).map λh'=>(undef,h')
 | .box e x=>cR e h (g x)
 | .alloc e zs=>some (Bk h,h++[.arr e zs])
 | .oa e n zs ps=>cH e n zs h (ps.map λ(o,s,x)=>(o,s,g x))
 | .make e bytes zs l c=>eM e bytes zs h (g l) (g c)
 | .app e esz bytes s x=>cT e esz bytes h (g s) (g x)
 | .mkMap=>some (.map (some h.length),h++[.smap []])
 | .RJ m k v=>(Q0 h (g m) (g k) (g v)).map λh'=>(undef,h')
 | .IY kd=>some (.map (some h.length),h++[.mT kd []])
 | .die=>none
 | .next _=>none
 | .pD kd=>some (.map (some h.length),h++[.jQ kd 0 []])
 | .RK kd m k v=>(Q1 kd h (g m) (g k) (g v)).map λh'=>(undef,h')
 | .Pd kd m k=>(QX kd h (g m) (g k)).map λh'=>(.tuple #[],h')
 | .UF x=>Q3 h (g x)
 | .RL kd m k v=>(Q2 kd h (g m) (g k) (g v)).map λh'=>(undef,h')
 | .copy d s=>sv h (g d) (g s)
 | .O6 k d s=>rA k h (g d) (g s)
def nj.iz:nj->pM
 | .alloc e zs=>.alloc e zs
 | .oa e n zs ps=>.oa e n zs ps
 | .make e b zs l c=>.make e b zs l c
 | .pD g=>.pD g
def pM.Kf:pM->Option nj
 | .alloc e zs=>some (.alloc e zs)
 | .oa e n zs ps=>some (.oa e n zs ps)
 | .make e b zs l c=>some (.make e b zs l c)
 | .pD g=>some (.pD g)
 | _=>none
def mj (a:nj) (g:Operand->Value):Option ((Nat->Value)×az):=
 match a with
 | .alloc e zs=>some (λi=>.pointer (some ⟨i,0,none⟩),.arr e zs)
 | .oa e n zs ps=>(jC (bE zs n) (ps.map λ(o,s,x)=>(o,s,g x))).map λcs=>(λi=>sl e i 0 n,.arr e cs)
 | .make e bytes zs l c=>
  match g l,g c with
  | .int _ l,.int _ c=>if 0<=l/\l<=c/\(bytes:Int)*c<=281474976710656/\c<=9223372036854775807 then some (λi=>sl e i 0 l.toNat,.arr e (bE zs l.toNat)) else none
  | _,_=>none
 | .pD g=>some (λi=>.map (some i),.jQ g 0 [])
theorem afy (a:nj) (g:Operand->Value) (h:ae):iR (.fl a) g h=(mj a g).map λp=>(p.1 h.length,h++[p.2]):=by
 cases a with
 | alloc e zs=>rfl
 | oa e n zs ps=>simp only [iR,mj,cH,Option.map_map];rfl
 | make e b zs l c=>
  simp only [iR,mj,eM]
  split
  ·split <;> rfl
  ·rfl
 | pD g=>rfl
theorem aBW (a:nj) (g:Operand->Value) (h:ae):iR a.iz g h=iR (.fl a) g h:=by cases a <;> rfl
theorem anU {e:pM} {a:nj} (h:e.Kf=some a):a.iz=e:=by
 cases e <;> simp [pM.Kf] at h <;> subst h <;> rfl
theorem NI {a:nj} {g:Operand->Value} {V:Nat->Value} {o:az} (h:mj a g=some (V,o)):∀i,vA (V i)=some i:=by
 cases a with
 | pD g=>simp [mj] at h;obtain ⟨rfl,_⟩:=h;intro i;rfl
 | alloc e zs=>simp [mj] at h;obtain ⟨rfl,_⟩:=h;intro i;rfl
 | oa e n zs ps=>simp only [mj,map_eq_some_iff,Prod.mk.injEq] at h;obtain ⟨_,_,rfl,_⟩:=h;intro i;rfl
 | make e b zs l c=>
  simp only [mj] at h
  split at h
  ·split at h
   ·simp at h;obtain ⟨rfl,_⟩:=h;intro i;rfl
   ·cases h
  ·cases h
def BE (P:Program) (t:TypeId):Option Value:=
 match P.info? t with
 | some i=>match i.zero with
  | some z=>if Ar z then some z else none
  | none=>none
 | none=>none
def isString (P:Program) (t:TypeId):Bool:=match P.underlying t with | some .string=>true | _=>false
def ze (P:Program) (t:TypeId):Option IntKind:=match P.underlying t with | some (.int k)=>some k | _=>none
def zY:Value->Bool
 | .agg cs=>cs.toList.all Ar
 | v=>mM v
def Kq (P:Program) (t:TypeId):Option Value:=
 match P.info? t with
 | some i=>match i.zero with
  | some z=>if zY z then some z else none
  | none=>none
 | none=>none
def qS (P:Program) (t:TypeId):Option jc:=
 match P.underlying t with
 | some (.map kt et)=>
  match P.underlying et with
  | some (.int _)=>none
  | _=>
   match P.underlying kt with
   | some .string=>some .str
   | some (.int k)=>some (.int k)
   | some (.array n e)=>
    match P.underlying e with
    | some (.int k)=>if (P.cellsOf e==1&&P.cellsOf kt==n&& !(P.types.size==0))=true then some (.ints n k) else none
    | _=>none
   | _=>none
 | _=>none
def uI (P:Program):Op->Option qM
 | .load t a=>
  match P.underlying t with
  | some d=>if jF P t&&(oJ d||P.cellsOf t==1) then some (.load (oJ d) (P.cellsOf t) a) else none
  | none=>none
 | .entry it=>some (.entry it)
 | .convert s d x=>
  match P.underlying s,P.underlying d with
  | some (.slice e),some .string=>match P.underlying e with | some (.int .u8)=>some (.xR x) | _=>none
  | _,_=>none
 | .lookup t m k ok=>
  match qS P t with
  | some g=>match P.underlying t with
   | some (.map _ et)=>(Kq P et).map λz=>.IQ g ok z m k
   | _=>none
  | none=>
  match P.underlying t with
  | some (.map kt et)=>if isString P kt then (BE P et).map λz=>.lookup ok z m k else (ze P kt).bind λkd=>(BE P et).map λz=>.IS kd ok z m k
  | _=>none
 | _=>none
def jW (P:Program):Op->Option pM
 | .store t a v=>if jF P t then some (.store (P.cellsOf t) a v) else none
 | .box e x=>some (.box e x)
 | .alloc e=>(zeroOf P e).map λzs=>.alloc e zs
 | .buildSlice t n ps=>
  match P.underlying t with
  | some (.slice e)=>
   match zeroOf P e with
   | some zs=>if n*P.cellsOf e<=16777216/\P.cellsOf e≠0 then some (.oa e n zs (ps.toList.map λ(i,x)=>(i*P.cellsOf e,P.cellsOf e,x))) else none
   | none=>none
  | _=>none
 | .makeSlice t l c=>
  match P.underlying t with
  | some (.slice e)=>
   match zeroOf P e with
   | some zs=>some (.make e (P.bytesOf e) zs l c)
   | none=>none
  | _=>none
 | .call { callee:=.builtin .append,args,argTypes }=>
  match args.toList,argTypes.toList with
  | [s,x],[t,t']=>
   if t=t' then
    match P.underlying t with
    | some (.slice e)=>
     match zeroOf P e with
     | some _=>some (.app e (P.cellsOf e) (P.bytesOf e) s x)
     | none=>none
    | _=>none
   else none
  | _,_=>none
 | .makeMap t none=>
  match qS P t with
  | some g=>some (.pD g)
  | none=>
  match P.underlying t with
  | some (.map kt _)=>some (match ze P kt with | some kd=>.IY kd | none=>.mkMap)
  | _=>some .mkMap
 | .mapUpdate t m k v | .insert t m k v=>
  match qS P t with
  | some g=>some (.RK g m k v)
  | none=>
  match P.underlying t with
  | some (.map kt _)=>if isString P kt then some (.RJ m k v) else (ze P kt).map λkd=>.RL kd m k v
  | _=>none
 | .call { callee:=.builtin .delete,args,argTypes }=>
  match args.toList,argTypes[0]? with
  | [m,k],some t=>(qS P t).map λg=>.Pd g m k
  | _,_=>none
 | .call { callee:=.builtin .copy,args,argTypes }=>
  match args.toList,argTypes.toList with
  | [d,s],[t,_]=>
   match P.underlying t with
   | some (.slice e)=>if (P.info? e).map (·.size)=some 1 then some (.copy d s) else
    match P.info? e with
    | some i=>some (.O6 i.size d s)
    | none=>none
   | _=>none
  | _,_=>none
 | .range t x=>(qS P t).map λ_=>.UF x
 | .next it false=>some (.next it)
 | .panic _ | .makeInterface .. =>some .die
 | _=>none
end
section
theorem anM {ρ:bk} {i o n m:Nat} {e:TypeId} {y:Value} (h:aK ρ (.slice (some ⟨i,o,some e⟩) n m) y):
  ∃r o' c',ρ i=some r/\r.elem=e/\y=.slice (some ⟨r.cZ,o',none⟩) n c'/\(o'=r.sh+o∨(n=0/\0<o/\c'=0))/\n<=c'/\c'<=maxLen/\o'+c'*r.esz<=r.size/\(n<=m/\m<=c'):=by
 cases h with
 | slice hr a b c d ek=>exact ⟨_,_,_,hr,rfl,rfl,a,b,c,d,ek⟩
theorem aK.down {ρ aN:bk} (hle:ρ.le aN) {x y0:Value} (h0:aK ρ x y0):∀{y:Value},aK aN x y->aK ρ x y:=by
 have same:∀{i:Nat} {r r':RI},ρ i=some r->aN i=some r'->r'=r:=λh h'=>by rw [hle _ _ h] at h';cases h';rfl
 induction h0 with
 | bool b=>intro y h;cases h;exact .bool b
 | int k n=>intro y h;cases h;exact .int k n
 | string s=>intro y h;cases h;exact .string s
 | tW=>intro y h;cases h;exact .tW
 | qw=>intro y h;cases h;exact .qw
 | tV=>intro y h;cases h;exact .tV
 | nilFunc=>intro y h;cases h;exact .nilFunc
 | nilIface=>intro y h;cases h;exact .nilIface
 | ptr hi=>intro y h;cases h with | ptr iM=>cases same hi iM;exact .ptr hi
 | slice hi a b c d=>
  intro y h
  obtain ⟨r',o',c',h1,h2,rfl,h3,h4,h5,h6,h7⟩:=anM h
  cases same hi h1
  exact .slice hi h3 h4 h5 h6 h7
 | void a=>intro y h;cases h;exact .void _
 | map hi=>intro y h;cases h with | map iM=>cases same hi iM;exact .map hi
 | yield hi=>intro y h;cases h with | yield iM=>cases same hi iM;exact .yield hi
 | func f s1 s2 _ _ Ra Rb=>
  intro y h
  cases h with
  | func _ t1 t2 q1 q2=>
   refine .func f t1 t2 (λk x x' e e'=>?_) (λk x x' e e'=>?_)
   ·obtain ⟨z,hz⟩:∃z,_=some z:=⟨_,getElem?_eq_getElem (by rw [<-s1];exact (Array.getElem?_eq_some_iff.1 e).1)⟩
    exact Ra k x z e hz (q1 k x x' e e')
   ·obtain ⟨z,hz⟩:∃z,_=some z:=⟨_,getElem?_eq_getElem (by rw [<-s2];exact (Array.getElem?_eq_some_iff.1 e).1)⟩
    exact Rb k x z e hz (q2 k x x' e e')
 | agg s1 hc _ ih=>
  intro y h
  cases h with
  | agg t1 _ q1=>
   refine .agg t1 hc (λk x x' e e'=>?_)
   obtain ⟨z,hz⟩:∃z,_=some z:=⟨_,getElem?_eq_getElem (by rw [<-s1];exact (Array.getElem?_eq_some_iff.1 e).1)⟩
   exact ih k x z e hz (q1 k x x' e e')
 | any v=>intro y _;exact .any y
 | tuple s1 _ ih=>
  intro y h
  cases h with
  | tuple t1 q1=>
   refine .tuple t1 (λk x x' e e'=>?_)
   obtain ⟨z,hz⟩:∃z,_=some z:=⟨_,getElem?_eq_getElem (by rw [<-s1];exact (Array.getElem?_eq_some_iff.1 e).1)⟩
   exact ih k x z e hz (q1 k x x' e e')
theorem ja.down {ρ aN:bk} (hle:ρ.le aN) {c c':Array Value} {sh sh':Nat} {xs:List Value} (h0:ja ρ c sh xs) (h:ja aN c' sh' xs):ja ρ c' sh' xs:=by
 intro j x hj
 obtain ⟨_,y0,_,r0⟩:=h0 j x hj
 obtain ⟨c1,y,hy,r⟩:=h j x hj
 exact ⟨c1,y,hy,r0.down hle r⟩
theorem oO.down {ρ aN:bk} (hle:ρ.le aN) {w w':World} {r:RI} {o:az} (h0:oO ρ w r o) (h:oO aN w' r o):oO ρ w' r o:=by
 cases o with
 | ro e xs=>
  obtain ⟨_,_,_,_,_,_,b4⟩:=h0
  obtain ⟨a1,c,t,fr,a2,a3,a4⟩:=h
  exact ⟨a1,c,t,fr,a2,a3,b4.down hle a4⟩
 | arr e xs=>
  obtain ⟨_,_,_,_,_,b4⟩:=h0
  obtain ⟨a1,a0,c,a2,a3,a4⟩:=h
  exact ⟨a1,a0,c,a2,a3,b4.down hle a4⟩
 | smap es=>
  obtain ⟨_,_,_,_,b3⟩:=h0
  obtain ⟨bn,clock,a1,a2,a3⟩:=h
  refine ⟨bn,clock,a1,a2,λj k v hj=>?_⟩
  obtain ⟨_,_,_,r0⟩:=b3 j k v hj
  obtain ⟨en,e1,e2,e3⟩:=a3 j k v hj
  exact ⟨en,e1,e2,r0.down hle e3⟩
 | mT kd es=>
  obtain ⟨_,_,_,_,b3⟩:=h0
  obtain ⟨bn,clock,a1,a2,a3⟩:=h
  refine ⟨bn,clock,a1,a2,λj k v hj=>?_⟩
  obtain ⟨_,_,_,r0⟩:=b3 j k v hj
  obtain ⟨en,e1,e2,e3⟩:=a3 j k v hj
  exact ⟨en,e1,e2,r0.down hle e3⟩
 | jQ g c es=>
  obtain ⟨_,_,_,_,b3⟩:=h0
  obtain ⟨a0,bn,a1,a2,a3⟩:=h
  refine ⟨a0,bn,a1,a2,λj b k v hj=>?_⟩
  obtain ⟨_,_,_,_,_,r0⟩:=b3 j b k v hj
  obtain ⟨e0,en,e1,e2,tg,e3⟩:=a3 j b k v hj
  exact ⟨e0,en,e1,e2,tg,r0.down hle e3⟩
 | iter m s n l=>
  obtain ⟨_,rm0,b1,_⟩:=h0
  obtain ⟨a0,rm,a1,a2⟩:=h
  have:=hle _ _ b1
  rw [a1] at this
  cases this
  exact ⟨a0,rm0,b1,a2⟩
 | loop c ls vs=>
  obtain ⟨_,_,_,_,_,_,_,_,b8⟩:=h0
  obtain ⟨rec,a1,a2,a3,a4,a5,a6,a7,a8⟩:=h
  exact ⟨rec,a1,a2,a3,a4,a5,a6,a7,λt=>(b8 t).down hle (a8 t)⟩
 | dead=>trivial
theorem Du.rel {ρ aN:bk} {v v':Value} (h:Du v=true) (hv:aK ρ v v'):aK aN v v':=by
 unfold Du at h
 split at h
 ·cases hv;exact .bool _
 ·cases hv;exact .int _ _
 ·cases hv;exact .string _
 ·cases hv;exact .nilFunc
 ·cases hv;exact .nilIface
 ·cases hv;exact .tW
 ·cases hv;exact .tV
 ·cases hv;exact .qw
 ·cases h
theorem bN.HP {P:Program} {ρ:bk} {h:ae} {w:World} (H:bN P ρ h w) (os:ae):bN P ρ (h++os) w where
 obj i r hi:=by
  obtain ⟨o,ho,hr⟩:=H.obj i r hi
  exact ⟨o,by rw [getElem?_append_left (H.lt hi)];exact ho,hr⟩
 inj i j r s hi hj hb hm hl:=by
  refine H.inj i j r s hi hj hb ?_ ?_
  ·unfold fB at hm⊢;rw [getElem?_append_left (H.lt hi)] at hm;exact hm
  ·unfold jH at hl⊢;rw [getElem?_append_left (H.lt hj)] at hl;exact hl
 esz:=H.esz
theorem Tr.HP {P:Program} {ρ:bk} {h:ae} {w:World} (H:bN P ρ h w) (os:ae):Tr ρ h w ρ (h++os) w where
 ext:=.refl _
 len:=by simp
 mo:=λ_ _ hi=>H.lt hi
 kinds:=λi hi hm=>by unfold fB at hm⊢;rw [getElem?_append_left hi] at hm;exact hm
 fresh:=λi r h1 h2=>by rw [h1] at h2;cases h2
 kN:=le_refl _
 kY:=λ_ _ _=>rfl
 os:=rfl
 tape:=rfl
 output:=rfl
 drawn:=le_refl _
theorem aBX {lo:qM} {g:Operand->Value} {h:ae} {v:Value} (os:ae) (hl:ie lo g h=some v):ie lo g (h++os)=some v:=by
 have get:∀{i:Nat} {o:az},h[i]?=some o->(h++os)[i]?=some o:=by
  intro i o hi
  rw [getElem?_append_left (cm hi).1];exact hi
 have cells:∀{i:Nat} {xs:List Value},bw h i=some xs->bw (h++os) i=some xs:=by
  intro i xs hc
  unfold bw at hc⊢
  split at hc
  ·rename_i e ys hq;rw [get hq];exact hc
  ·rename_i e ys hq;rw [get hq];exact hc
  ·cases hc
 cases lo with
 | load agg n a=>
  simp only [ie,af] at hl⊢
  split at hl
  ·rename_i i o _
   cases hc:bw h i with
   | none=>rw [hc] at hl;cases hl
   | some xs=>rw [hc] at hl;rw [cells hc];exact hl
  ·cases hl
 | xR x=>
  have sc:∀{cs:List Value},fx h 1 (g x)=some cs->fx (h++os) 1 (g x)=some cs:=by
   intro cs hc
   unfold fx at hc⊢
   split at hc
   ·exact hc
   ·rename_i i o e n c hx
    split at hc
    ·rename_i h0;rw [if_pos h0];exact hc
    ·rename_i h0
     rw [if_neg h0]
     cases uS:bw h i with
     | none=>rw [uS] at hc;cases hc
     | some xs=>rw [uS] at hc;rw [cells uS];exact hc
   ·cases hc
  simp only [ie,ry] at hl⊢
  cases hc:fx h 1 (g x) with
  | none=>rw [hc] at hl;cases hl
  | some cs=>rw [hc] at hl;rw [sc hc];exact hl
 | lookup ok z m k=>
  simp only [ie,Iz] at hl⊢
  split at hl
  ·rename_i i key hm hk
   split at hl
   ·rename_i es he;rw [get he];exact hl
   ·cases hl
  ·cases hl
 | IS kd ok z m k=>
  simp only [ie,IB] at hl⊢
  split at hl
  ·rename_i i Bc key hm hk
   split at hl
   ·rename_i nY es he;rw [get he];exact hl
   ·cases hl
  ·cases hl
 | IQ gk ok z m k=>
  simp only [ie,IA] at hl⊢
  split at hl
  ·rename_i i hm
   split at hl
   ·rename_i g' c es he;rw [get he];exact hl
   ·cases hl
  ·cases hl
 | entry it=>
  simp only [ie,Iy] at hl⊢
  split at hl
  ·rename_i j hj
   split at hl
   ·rename_i i si seen last Qe
    rw [get Qe]
    simp only
    split at hl
    ·rename_i gg c es b kP hb
     rw [get kP,hb]
     exact hl
    ·cases hl
   ·cases hl
  ·cases hl
 | obj x=>
  simp only [ie,eA] at hl⊢
  cases hx:vA (g x) with
  | none=>rw [hx] at hl;cases hl
  | some i=>
   rw [hx] at hl
   simp only [Option.bind_some] at hl⊢
   cases ho:h[i]? with
   | none=>rw [ho] at hl;cases hl
   | some o=>rw [ho] at hl;rw [get ho];exact hl
end
section
section
variable {P : Program} {w : World} {ρ : bk} {h : ae}
theorem bN.cells (H:bN P ρ h w) {i:Nat} {r:RI} {xs:List Value} (hi:ρ i=some r) (hx:bw h i=some xs):
  ∃c t fr,w.heap[r.cZ]?=some (.cells c t fr)/\ja ρ c r.sh xs:=by
 obtain ⟨o,ho,hr⟩:=H.obj i r hi
 unfold bw at hx
 rw [ho] at hx
 cases o with
 | ro e ys=>
  simp at hx;subst hx
  obtain ⟨h1,c,t,fr,h2,h3,h4⟩:=hr
  exact ⟨c,t,fr,h2,h4⟩
 | arr e ys=>
  simp at hx;subst hx
  obtain ⟨h1,h0,c,h2,h3,h4⟩:=hr
  subst h1
  exact ⟨c,_,(0,0),h2,by rw [h0];exact h4⟩
 | smap es=>simp at hx
 | mT kd es=>simp at hx
 | jQ g c es=>simp at hx
 | iter m s n l=>simp at hx
 | loop c ls vs=>simp at hx
 | dead=>simp at hx
theorem ja.Ve {c:Array Value} {sh o n:Nat} {xs:List Value} (hc:ja ρ c sh xs) (hl:o+n<=xs.length):
  ∃ys:List Value,dw ρ ((xs.drop o).take n) ys/\ys.length=n/\(∀x∈(xs.drop o).take n,jv x=true)/\∀j v,ys[j]?=some v->c[sh+o+j]?=some v:=by
 have key:∀j,j<n->∃x y,((xs.drop o).take n)[j]?=some x/\c[sh+o+j]?=some y/\aK ρ x y/\jv x=true:=by
  intro j hj
  have hx:xs[o+j]?=some (xs[o+j]'(by omega)):=List.getElem?_eq_getElem _
  obtain ⟨h1,y,hy,hr⟩:=hc (o+j) _ hx
  refine ⟨_,y,?_,by rw [<-hy];congr 1;omega,hr,h1⟩
  rw [getElem?_take,if_pos hj,List.getElem?_drop]
  exact hx
 have hlen:((xs.drop o).take n).length=n:=by simp;omega
 refine ⟨(List.range n).map λj=>c.getD (sh+o+j) Go.undef,?_,by simp,?_,?_⟩
 ·refine dw.RR (by simp;omega) ?_
  intro k x y hx hy
  have hk:k<n:=by have:=(cm hx).1;omega
  obtain ⟨x',y',h1,h2,h3,_⟩:=key k hk
  rw [h1] at hx;cases hx
  simp [hk] at hy
  subst hy
  simpa [Array.getD,Array.getElem?_eq_some_iff.1 h2 |>.1,(Array.getElem?_eq_some_iff.1 h2).2] using h3
 ·intro x hx
  obtain ⟨k,hk⟩:=List.getElem?_of_mem hx
  have fN:k<n:=by have:=(cm hk).1;omega
  obtain ⟨x',y',h1,h2,h3,h4⟩:=key k fN
  rw [h1] at hk;cases hk
  exact h4
 ·intro j v hv
  by_cases hj:j<n
  ·obtain ⟨x',y',h1,h2,h3,_⟩:=key j hj
   simp [hj] at hv
   rw [h2,<-hv]
   simp [Array.getElem?_eq_some_iff.1 h2 |>.1,(Array.getElem?_eq_some_iff.1 h2).2]
  ·simp [hj] at hv
theorem Cb {g o:Nat} {c:Array Value} {t:TypeId} {fr:Nat×Nat} (hg:w.heap[g]?=some (.cells c t fr)):w.cell? ⟨g,o,none⟩=c[o]?:=by
 simp [World.cell?,hg]
theorem aKa {g o n:Nat} {c:Array Value} {t:TypeId} {fr:Nat×Nat} {ys:List Value} (hg:w.heap[g]?=some (.cells c t fr)) (hl:ys.length=n) (hy:∀j v,ys[j]?=some v->c[o+j]?=some v):
  (loadCells ⟨g,o,none⟩ n).run P w=.ok ys.toArray w:=by
 subst hl
 exact run_loadCells_list w _ ys λj v hj=>by rw [Addr.add_lit,Cb hg];exact hy j v hj
theorem anx (H:bN P ρ h w) {t:TypeId} {d:TypeDesc} {a a' v:Value} (ht:P.underlying t=some d) (hk:jF P t=true) (hi:af (oJ d) (P.cellsOf t) h a=some v) (ha:aK ρ a a'):
  ∃v',(Instr.loadAt t a').run P w=.ok v' w/\aK ρ v v':=by
 unfold af at hi
 split at hi
 ·rename_i i o
  obtain ⟨r,hr,rfl⟩:=ha.DL
  simp only [bind_eq_some_iff] at hi
  obtain ⟨xs,hx,hp⟩:=hi
  obtain ⟨c,_,fr,hb,hc⟩:=H.cells hr hx
  unfold dS at hp
  cases hd:oJ d
  ·rw [hd] at hp
   simp at hp
   obtain ⟨h1,y,hy,hv⟩:=hc o v hp
   refine ⟨y,?_,hv⟩
   have:w.cell? ⟨r.cZ,r.sh+o,none⟩=some y:=by rw [Cb hb,hy]
   simp [Instr.loadAt,Instr.sureAddr,loadVar,UO w ht,hd,this]
  ·rw [hd] at hp
   simp at hp
   obtain ⟨hl,rfl⟩:=hp
   obtain ⟨ys,h1,h2,h3,h4⟩:=hc.Ve hl
   refine ⟨.agg ys.toArray,?_,.FB h1 h3⟩
   simp [Instr.loadAt,Instr.sureAddr,loadVar,UO w ht,hd,qD w hk,aKa (P:=P) hb h2 h4]
 ·cases hi
theorem DY (H:bN P ρ h w) {esz:Nat} {x x':Value} {cs:List Value} (hs:fx h esz x=some cs) (hx:aK ρ x x'):
  (x'=.slice none 0 0/\cs=[])∨(∃b o n c',x'=.slice (some ⟨b,o,none⟩) n c'/\iY x=some n/\cs.length=n*esz/\(∀v∈cs,jv v=true)/\
   ∃ys,dw ρ cs ys/\∀j v,ys[j]?=some v->w.cell? ⟨b,o+j,none⟩=some v):=by
 unfold fx at hs
 split at hs
 ·simp at hs;subst hs
  cases hx
  exact .inl ⟨rfl,rfl⟩
 ·rename_i i o e n c
  cases hx with
  | slice hr ho hn hc hb ek=>
   rename_i o' c' r
   split at hs
   ·rename_i h0
    simp at hs;subst hs;subst h0
    exact .inr ⟨_,_,_,_,rfl,rfl,by simp,by simp,[],.nil,by simp⟩
   ·rename_i h0
    simp only [bind_eq_some_iff] at hs
    obtain ⟨xs,hx,hl⟩:=hs
    split at hl
    ·rename_i hle
     simp at hl;subst hl
     obtain ⟨c,_,fr,rW,hc⟩:=H.cells hr hx
     obtain ⟨ys,h1,h2,h3,h4⟩:=hc.Ve hle
     have fU:o'=r.sh+o:=by
      rcases ho with ho | ⟨q1,q2,q3⟩
      ·exact ho
      ·omega
     subst fU
     refine .inr ⟨_,_,_,_,rfl,rfl,by simp;omega,h3,ys,h1,?_⟩
     intro j v hj
     rw [Cb rW]
     exact h4 j v hj
    ·cases hl
 ·cases hs
theorem agm:∀{cs:List Value} {l:List UInt8},cs.mapM B1=some l->∃ns:List Int,cs=ns.map (Value.int .u8)/\l=ns.map λn=>UInt8.ofNat n.toNat
 | [],l,h=>by simp at h;subst h;exact ⟨[],rfl,rfl⟩
 | c::cs,l,h=>by
  simp only [List.mapM_cons,Option.bind_eq_bind,bind_eq_some_iff] at h
  obtain ⟨b,hb,bs,hbs,h⟩:=h
  simp at h;subst h
  obtain ⟨ns,rfl,rfl⟩:=agm hbs
  unfold B1 at hb
  split at hb
  ·rename_i n
   simp at hb;subst hb
   exact ⟨n::ns,rfl,rfl⟩
  ·cases hb
theorem dw.ints {ns:List Int} {k:IntKind} {ys:List Value} (h:dw ρ (ns.map (Value.int k)) ys):ys=ns.map (Value.int k):=by
 induction ns generalizing ys with
 | nil=>cases h;rfl
 | cons n ns ih=>
  cases h with
  | cons a b=>rw [a.kT,ih b];rfl
theorem aDG (ns:List Int):∀(s:ByteArray),ns.foldl (λr n=>r.push (UInt8.ofNat n.toNat)) s=⟨(bytes s++ns.map λn=>UInt8.ofNat n.toNat).toArray⟩:=by
 induction ns with
 | nil=>intro s;simp [RH]
 | cons n ns ih=>
  intro s
  rw [List.foldl_cons,ih]
  simp [bytes]
theorem aJH (H:bN P ρ h w) {x x' v:Value} (hi:ry h x=some v) (hx:aK ρ x x'):(Conv.bytesToString x').run P w=.ok v w/\aK ρ v v:=by
 unfold ry at hi
 simp only [bind_eq_some_iff,map_eq_some_iff] at hi
 obtain ⟨cs,hs,l,hl,rfl⟩:=hi
 refine ⟨?_,aK.S _ _⟩
 obtain ⟨ns,rfl,rfl⟩:=agm hl
 rcases DY H hs hx with ⟨rfl,h0⟩ | ⟨b,o,n,c',rfl,_,hlen,_,ys,hy,tA⟩
 ·have:ns=[]:=by simpa using h0
  subst this
  simp [Conv.bytesToString,S]
  rfl
 ·have e:=hy.ints
  subst e
  simp at hlen
  have hld:(loadCells ⟨b,o,none⟩ n).run P w=.ok (ns.map (Value.int .u8)).toArray w:=by
   have:=run_loadCells_list (P:=P) w ⟨b,o,none⟩ (ns.map (Value.int .u8)) (λj v hj=>by rw [Addr.add_lit];exact tA j v hj)
   simpa [hlen] using this
  rw [run_bytesToString w _ n c' ns hld,aDG]
  rfl
end
end
section
theorem afE {a b:Value} (h:A7 a b=true):a=b:=by
 unfold A7 at h
 split at h
 ·simp only [and_eq_true,decide_eq_true_eq] at h;rw [h.1,h.2]
 ·cases h
theorem afG:∀{a b:List Value},A8 a b=true->a=b
 | [],[],_=>rfl
 | a::wk,b::bs,h=>by
  simp only [A8,and_eq_true] at h
  rw [afE h.1,afG h.2]
 | [],_::_,h=>by cases h
 | _::_,[],h=>by cases h
theorem afH {k:IntKind}:∀{a:List Value},(∀v∈a,nX k v=true)->A8 a a=true
 | [],_=>rfl
 | a::wk,h=>by
  simp only [A8,and_eq_true]
  refine ⟨?_,afH λv hv=>h v (by simp [hv])⟩
  have:=h a (by simp)
  unfold nX at this
  split at this
  ·simp [A7]
  ·cases this
theorem adX {a b:Value} (h:wC a b=true):a=b:=by
 unfold wC at h
 split at h
 ·rename_i s t
  simp at h
  have:=RH s
  rw [h,RH] at this
  rw [this]
 ·rw [ext' (afG h)]
 ·exact afE h
theorem aAx {g:jc} {a:Value} (h:iF g a=true):wC a a=true:=by
 unfold iF at h
 split at h
 ·unfold nX at h
  split at h
  ·simp [wC,A7]
  ·cases h
 ·simp [wC]
 ·simp only [and_eq_true,all_eq_true] at h
  exact afH λv hv=>(h.2 v hv).1
 ·cases h
theorem aAw {g:jc} {a b:Value} (h:iF g a=true):wC a b=true↔a=b:=⟨adX,λe=>e ▸ aAx h⟩
theorem JH {g:jc} {k:Value} (hk:iF g k=true):∀es:List (Nat×Value×Value),(rH k es=none/\∀e∈es,e.2.1≠k)∨∃j e,rH k es=some j/\es[j]?=some e/\e.2.1=k
 | []=>.inl ⟨rfl,by simp⟩
 | (b,k',v)::es=>by
  simp only [rH]
  by_cases h:wC k k'=true
  ·rw [if_pos h]
   exact .inr ⟨0,(b,k',v),rfl,rfl,(adX h).symm⟩
  ·rw [if_neg h]
   rcases JH hk es with ⟨h1,h2⟩ | ⟨j,e,h1,h2,h3⟩
   ·refine .inl ⟨by rw [h1];rfl,?_⟩
    intro e he
    rcases List.mem_cons.1 he with rfl | he
    ·intro e'
     exact h ((aAw hk).2 e'.symm)
    ·exact h2 e he
   ·exact .inr ⟨j+1,e,by rw [h1];rfl,by simpa using h2,h3⟩
structure EH (P:Program) (kt:TypeId) (g:jc):Prop where
 check:∀(w:World) (em:Bool) (v:Value),iF g v=true->(Instr.checkKey em 10000 kt v).run P w=.ok () w
 find:∀(w:World) (x:Value),iF g x=true->∀es:List MapEntry,(∀e∈es,iF g e.key=true)->
  ((Instr.findKey kt x es).run P w=.ok none w/\∀e∈es,e.key≠x)∨∃j e,(Instr.findKey kt x es).run P w=.ok (some (j,e.val)) w/\es[j]?=some e/\e.key=x
 stays:∀(w:World) (v:Value),iF g v=true->(Instr.keyThatStays v v).run P w=.ok v w
theorem amI {P:Program} {kt:TypeId} {g:jc} {d:TypeDesc} (hd:P.underlying kt=some d) (hg:∀v,iF g v=true->MapKept.IsKey d v):EH P kt g where
 check w em v hv:=MapKept.run_checkKey hd (hg v hv) em 9999
 find w x hx es kP:=by
  rcases MapKept.findNow_spec (hg x hx) es 0 (λe he=>hg _ (kP e he)) with ⟨h1,h2⟩ | ⟨j,e,h1,h2,h3⟩
  ·exact .inl ⟨MapKept.run_findKey hd h1,h2⟩
  ·exact .inr ⟨j,e,by simpa using MapKept.run_findKey hd h1,h2,h3⟩
 stays w v hv:=MapKept.run_keyThatStays (hg v hv)
section
variable {P : Program}
theorem afI {k:IntKind} {e:TypeId} {D:Nat} (he:P.underlying e=some (.int k)) (hc:P.cellsOf e=1) (cs:List Value) (h:∀v∈cs,(nX k v&&Rh k v)=true):
  ∀m,m<=cs.length->∃ls,((List.range m).mapM λi=>P.keyLits (D+1) e ((cs.drop (i*P.cellsOf e)).take (P.cellsOf e)))=some ls
 | 0,_=>⟨[],rfl⟩
 | m+1,hm=>by
  obtain ⟨ls,Qm⟩:=afI he hc cs h m (by omega)
  have tL:m<cs.length:=by omega
  have hv:=h cs[m] (List.getElem_mem tL)
  rw [and_eq_true] at hv
  have h1:(cs.drop (m*P.cellsOf e)).take (P.cellsOf e)=[cs[m]]:=by
   rw [hc,Nat.mul_one]
   apply List.ext_getElem?
   intro i
   rw [getElem?_take]
   cases i with
   | zero=>simp [tL]
   | succ i=>simp
  generalize cs[m]=v at hv h1
  obtain ⟨k',n,rfl⟩:∃k' n,v=.int k' n:=by
   cases v <;> first | exact ⟨_,_,rfl⟩ | simp [nX] at hv
  have hk:k'=k:=by simpa [nX] using hv.1
  subst hk
  have hr:k'.min<=n/\n<=k'.max:=by simpa [Rh] using hv.2
  have hw:(Lit.int k' n).wf=true:=by simp [Lit.wf,hr]
  refine ⟨ls++[[.int k' n]],?_⟩
  rw [List.range_succ,List.mapM_append,Qm]
  simp [h1,Program.keyLits,he,hw]
theorem aB4 {kt e:TypeId} {n:Nat} {k:IntKind} (hu:P.underlying kt=some (.array n e)) (he:P.underlying e=some (.int k)) (oz:P.cellsOf e=1) (PZ:P.cellsOf kt=n) (nG:P.types.size≠0):EH P kt (.ints n k):=by
 have A:WideMaps.ArrKey P kt e n:=⟨hu,by simp [Program.plainKey,he],oz,PZ⟩
 have key:∀v,iF (.ints n k) v=true->∃l,keyOf P kt v=some l:=by
  intro v hv
  cases v <;> simp [iF] at hv
  rename_i cs
  obtain ⟨h1,h2⟩:=hv
  have hkt:=A.keyType ⟨P.types.size-1,by omega⟩
  obtain ⟨D,hD⟩:∃D,P.types.size=D+1:=⟨P.types.size-1,by omega⟩
  obtain ⟨ls,Qm⟩:=afI (D:=D) he oz cs.toList (λv hv=>by obtain ⟨i,hi,e⟩:=List.mem_iff_getElem.1 hv;have:=h2 i (by simpa using hi);rw [<-e];simpa using this) n (by simp [h1])
  refine ⟨.string (keyBytes ls.flatten),?_⟩
  unfold keyOf
  rw [hu]
  have hf:(Value.agg cs).formed P kt=true:=by simp [Value.formed,hu,PZ,h1]
  simp only [hkt,hf,Bool.and_self,if_true]
  unfold Program.keyLits
  rw [hu]
  have hl:(Value.agg cs).cells.toList.length=P.cellsOf kt:=by simp [Value.cells,PZ,h1]
  simp only [hl,if_true,hD]
  have:(Value.agg cs).cells.toList=cs.toList:=rfl
  rw [this,Qm]
  rfl
 have K:=A.law
 exact {
  check:=λw em v hv=>let ⟨l,hl⟩:=key v hv;K.check w em hl
  find:=λw x hx es kP=>let ⟨l,hl⟩:=key x hx;K.find w hl es λe he=>key _ (kP e he)
  stays:=λw v hv=>let ⟨l,hl⟩:=key v hv;K.stays w hl }
theorem HQ {t:TypeId} {g:jc} (h:qS P t=some g):∃kt et,P.underlying t=some (.map kt et)/\EH P kt g:=by
 unfold qS at h
 split at h
 ·rename_i kt et ht
  refine ⟨kt,et,ht,?_⟩
  split at h
  ·cases h
  ·split at h
   ·rename_i hk
    simp at h;subst h
    exact amI hk λv hv=>by cases v <;> simp [iF] at hv;trivial
   ·rename_i k hk
    simp at h;subst h
    exact amI hk λv hv=>by cases v <;> simp [iF,nX] at hv;exact hv
   ·rename_i n e hk
    split at h
    ·rename_i k he
     split at h
     ·rename_i hc
      simp at h;subst h
      simp at hc
      exact aB4 hk he hc.1.1 hc.1.2 (by rw [Ne,Array.size_eq_zero_iff];exact hc.2)
     ·cases h
    ·cases h
   ·cases h
 ·cases h
end
section
variable {P : Program} {w : World} {ρ : bk} {h : ae}
structure rO (ρ:bk) (g:jc) (es:List (Nat×Value×Value)) (bn:Array MapEntry):Prop where
 size:bn.size=es.length
 nodup:(es.map λe=>e.2.1).Nodup
 get:∀(j b:Nat) (k v:Value),es[j]?=some (b,k,v)->iF g k=true/\∃en,bn[j]?=some en/\en.key=k/\en.born=b/\aK ρ v en.val
theorem bN.Cp (H:bN P ρ h w) {i:Nat} {r:RI} {g:jc} {c:Nat} {es:List (Nat×Value×Value)} (hi:ρ i=some r) (he:h[i]?=some (.jQ g c es)):
  ∃bn,w.heap[r.cZ]?=some (.map bn c)/\rO ρ g es bn:=by
 obtain ⟨o,ho,hr⟩:=H.obj i r hi
 rw [he] at ho
 cases ho
 obtain ⟨h0,bn,h1,h2,h3⟩:=hr
 exact ⟨bn,h1,h2,h0,h3⟩
theorem rO.inv {g:jc} {es:List (Nat×Value×Value)} {bn:Array MapEntry} (E:rO ρ g es bn) {j:Nat} {en:MapEntry} (hj:bn[j]?=some en):∃v,es[j]?=some (en.born,en.key,v)/\iF g en.key=true/\aK ρ v en.val:=by
 have aw:j<es.length:=by rw [<-E.size];exact (Array.getElem?_eq_some_iff.1 hj).1
 obtain ⟨b,k,v⟩:Nat×Value×Value:=es[j]
 have kP:=List.getElem?_eq_getElem aw
 generalize he:es[j]=x at kP
 obtain ⟨b,k,v⟩:=x
 obtain ⟨g1,en',g2,g3,g4,g5⟩:=E.get j b k v kP
 rw [hj] at g2
 cases g2
 subst g3;subst g4
 exact ⟨v,kP,g1,g5⟩
theorem UL {g:jc} {kt:TypeId} {es:List (Nat×Value×Value)} {bn:Array MapEntry} (L:EH P kt g) (E:rO ρ g es bn) {k:Value} (hk:iF g k=true):
  ((rH k es=none/\(∀e∈es,e.2.1≠k))/\(Instr.findKey kt k bn.toList).run P w=.ok none w)∨
  ∃j b v en,rH k es=some j/\es[j]?=some (b,k,v)/\bn[j]?=some en/\en.key=k/\en.born=b/\aK ρ v en.val/\(Instr.findKey kt k bn.toList).run P w=.ok (some (j,en.val)) w:=by
 have gR:∀e∈bn.toList,iF g e.key=true:=by
  intro e he
  obtain ⟨j,hj,e'⟩:=List.mem_iff_getElem.1 he
  have:bn[j]?=some e:=by
   rw [<-getElem?_toList,List.getElem?_eq_getElem hj,e']
  exact (E.inv this).choose_spec.2.1
 rcases L.find w k hk bn.toList gR with ⟨h1,h2⟩ | ⟨j,en,h1,h2,h3⟩
 ·rcases JH hk es with ⟨p1,p2⟩ | ⟨j,e,p1,p2,p3⟩
  ·exact .inl ⟨⟨p1,p2⟩,h1⟩
  ·exfalso
   obtain ⟨b,k',v⟩:=e
   obtain ⟨_,en,q1,q2,_⟩:=E.get j b k' v p2
   have hm:en∈bn.toList:=by
    rw [<-getElem?_toList] at q1
    exact mem_of_getElem? q1
   exact h2 en hm (q2.trans p3)
 ·have h2':bn[j]?=some en:=by rw [<-getElem?_toList];exact h2
  obtain ⟨v,q1,q2,q3⟩:=E.inv h2'
  rcases JH hk es with ⟨p1,p2⟩ | ⟨j',e,p1,p2,p3⟩
  ·exact absurd h3 (p2 _ (mem_of_getElem? q1))
  ·have hj:j'=j:=by
    have hn:=List.pairwise_iff_getElem.1 E.nodup
    have l1:j<es.length:=(cm q1).1
    have l2:j'<es.length:=(cm p2).1
    have k1:(es.map λe=>e.2.1)[j]'(by simpa using l1)=k:=by
     have:=(cm q1).2
     simp [this,h3]
    have k2:(es.map λe=>e.2.1)[j']'(by simpa using l2)=k:=by
     have:=(cm p2).2
     simp [this,p3]
    rcases Nat.lt_trichotomy j j' with aw | heq | aw
    ·exact absurd (k1.trans k2.symm) (hn j j' _ _ aw)
    ·exact heq.symm
    ·exact absurd (k2.trans k1.symm) (hn j' j _ _ aw)
   subst hj
   exact .inr ⟨_,_,v,en,p1,by rw [q1,h3],h2',h3,rfl,q3,h1⟩
theorem zY.rel {z:Value} (h:zY z=true):aK ρ z z:=by
 unfold zY at h
 split at h
 ·rename_i cs
  rw [all_eq_true] at h
  have cl:∀x∈cs.toList,mM x=true/\jv x=true:=λx hx=>by have:=h x hx;simpa [Ar] using this
  refine .agg rfl (λx hx=>(cl x hx).2) (λk x x' hx dM=>?_)
  rw [hx] at dM
  cases dM
  exact mM.rel (cl x (by rw [<-getElem?_toList] at hx;exact mem_of_getElem? hx)).1
 ·exact mM.rel h
theorem aJO (H:bN P ρ h w) {it it' v:Value} (hi:Iy h it=some v) (hv:aK ρ it it'):∃v',(Instr.entry it').run P w=.ok v' w/\aK ρ v v':=by
 unfold Iy at hi
 split at hi
 ·rename_i j
  split at hi
  ·rename_i i J0 seen last Qe
   split at hi
   ·rename_i g c es b kP hb
    split at hi
    ·rename_i gM
     subst gM
     cases hv with
     | ptr hr=>
      rename_i r
      obtain ⟨o,ho,yP⟩:=H.obj j r hr
      rw [Qe] at ho
      cases ho
      obtain ⟨hsh,rm,hrm,rW⟩:=yP
      obtain ⟨bn,hm,E⟩:=H.Cp hrm kP
      rw [hsh]
      rw [map_eq_some_iff] at hi
      obtain ⟨e,he,rfl⟩:=hi
      have aAT:∃en,bn.find? (λx=>x.born==b)=some en/\en.key=e.2.1/\iF g e.2.1=true/\aK ρ e.2.2 en.val:=by
       rw [<-Array.find?_toList]
       have key:∀(l1:List (Nat×Value×Value)) (l2:List MapEntry),l2.length=l1.length->(∀(j b:Nat) (k v:Value),l1[j]?=some (b,k,v)->iF g k=true/\∃en,l2[j]?=some en/\en.key=k/\en.born=b/\aK ρ v en.val)->
         l1.find? (λx=>x.1==b)=some e->∃en,l2.find? (λx=>x.born==b)=some en/\en.key=e.2.1/\iF g e.2.1=true/\aK ρ e.2.2 en.val:=by
        intro l1
        induction l1 with
        | nil=>intro l2 _ _ h;simp at h
        | cons x l1 ih=>
         intro l2 hl gR hf
         obtain ⟨bx,kx,vx⟩:=x
         cases l2 with
         | nil=>simp at hl
         | cons y l2=>
          obtain ⟨g1,en,g2,g3,g4,g5⟩:=gR 0 bx kx vx rfl
          simp at g2
          subst g2
          rw [List.find?_cons] at hf⊢
          by_cases AK:(bx==b)=true
          ·simp only [AK] at hf
           cases hf
           rw [g4]
           simp only [AK]
           exact ⟨y,rfl,g3,g1,g5⟩
          ·have AK:(bx==b)=false:=by simpa using AK
           simp only [AK] at hf
           rw [g4]
           simp only [AK]
           exact ih l2 (by simpa using hl) (λj b k v hj=>by simpa using gR (j+1) b k v (by simpa using hj)) hf
       exact key es bn.toList (by simp [E.size]) (λj b k v hj=>by simpa using E.get j b k v hj) he
      obtain ⟨en,f1,f2,f3,f4⟩:=aAT
      have dE:(getObj r.cZ).run P w=.ok (.mapIter (some rm.cZ) J0 seen.toArray c) w:=by simp [getObj,Sem.run,rW]
      have aAX:(getObj rm.cZ).run P w=.ok (.map bn c) w:=by simp [getObj,Sem.run,hm]
      have yr:seen.toArray.back?=some b:=by simpa using hb
      refine ⟨.tuple #[en.key,en.val],?_,?_⟩
      ·unfold Instr.entry
       simp [dE,aAX,hb,f1]
      ·rw [f2]
       have hkr:aK ρ e.2.1 e.2.1:=by
        have ints:∀{kd:IntKind} {v:Value},nX kd v=true->aK ρ v v/\jv v=true:=by
         intro kd v hv
         cases v <;> simp [nX] at hv
         exact ⟨.int _ _,rfl⟩
        cases aeR:e.2.1 with
        | int kd n=>exact .int _ _
        | string s=>exact .string _
        | agg cs=>
         rw [aeR] at f3
         cases g with
         | ints n kd=>
          simp only [iF,and_eq_true,all_eq_true] at f3
          refine .agg rfl (λx hx=>(ints (f3.2 x hx).1).2) (λk x x' hx dM=>?_)
          rw [hx] at dM
          cases dM
          exact (ints (f3.2 x (by rw [<-getElem?_toList] at hx;exact mem_of_getElem? hx)).1).1
         | int _=>simp [iF,nX] at f3
         | str=>simp [iF] at f3
        | _=>rw [aeR] at f3;cases g <;> simp [iF,nX] at f3
       exact aK.vP (.cons hkr (.cons f4 .nil))
    ·cases hi
   ·cases hi
  ·cases hi
 ·cases hi
theorem aMj {t:TypeId} {z:Value} (hz:Kq P t=some z):(∀w,(zeroValue t).run P w=.ok z w)/\zY z=true:=by
 unfold Kq at hz
 split at hz
 ·rename_i i hi
  split at hz
  ·rename_i z' yV
   split at hz
   ·rename_i hc
    simp at hz;subst hz
    exact ⟨λw=>zF w hi yV,hc⟩
   ·cases hz
  ·cases hz
 ·cases hz
theorem aK.key {g:jc} {k k':Value} (hk:iF g k=true) (h:aK ρ k k'):k'=k:=by
 have ints:∀{kd:IntKind} {v v':Value},nX kd v=true->aK ρ v v'->v'=v:=by
  intro kd v v' hv hr
  cases hr <;> first | rfl | simp [nX] at hv
 cases h with
 | int=>rfl
 | string=>rfl
 | agg hs _ gR=>
  rename_i xs iA _
  cases g with
  | ints n kd=>
   simp only [iF,and_eq_true,all_eq_true] at hk
   congr 1
   apply Array.ext
   ·exact hs.symm
   ·intro i h1 h2
    exact ints (hk.2 xs[i] (by simp)).1 (gR i _ _ (getElem?_eq_getElem h2) (getElem?_eq_getElem h1))
  | int _=>simp [iF,nX] at hk
  | str=>simp [iF] at hk
 | _=>cases g <;> simp [iF,nX] at hk
theorem aJW (H:bN P ρ h w) {t kt et:TypeId} {g:jc} {ok:Bool} {z m m' k k' v:Value} (hg:qS P t=some g) (ht:P.underlying t=some (.map kt et)) (hz:Kq P et=some z)
  (hi:IA g ok z h m k=some v) (hm:aK ρ m m') (qh:aK ρ k k'):∃v',(Instr.lookup t m' k' ok).run P w=.ok v' w/\aK ρ v v':=by
 obtain ⟨kt',et',Da,L⟩:=HQ hg
 rw [ht] at Da
 cases Da
 unfold IA at hi
 split at hi
 ·rename_i i
  cases hm with
  | map hr=>
   rename_i r
   split at hi
   ·rename_i g' c es he
    split at hi
    ·rename_i px
     obtain ⟨rfl,hk⟩:=px
     rw [qh.key hk]
     have ant:∀{bn:Array MapEntry} {clock:Nat},w.heap[r.cZ]?=some (.map bn clock)->(getObj r.cZ).run P w=.ok (.map bn clock) w:=by
      intro bn clock hb
      simp [getObj,Sem.run,hb]
     obtain ⟨bn,hb,E⟩:=H.Cp hr he
     obtain ⟨pU,oF⟩:=aMj hz
     rcases UL (w:=w) L E hk with ⟨⟨e1,_⟩,e2⟩ | ⟨j,b,u,en,e1,e2,e3,e4,e5,e6,e7⟩
     ·have:yf k es=none:=by simp [yf,e1]
      rw [this] at hi
      simp at hi
      have gN:(Instr.lookup t (.map (some r.cZ)) k ok).run P w=.ok (if ok then .tuple #[z,.bool false] else z) w:=by
       simp [Instr.lookup,run_underlying ht,ant hb,L.check w _ k hk,e2,pU]
      refine ⟨_,gN,?_⟩
      subst hi
      cases ok
      ·exact zY.rel oF
      ·exact aK.vP (.cons (zY.rel oF) (.cons (.bool _) .nil))
     ·have:yf k es=some u:=by simp [yf,e1,e2]
      rw [this] at hi
      simp at hi
      have gN:(Instr.lookup t (.map (some r.cZ)) k ok).run P w=.ok (if ok then .tuple #[en.val,.bool true] else en.val) w:=by
       simp [Instr.lookup,run_underlying ht,ant hb,L.check w _ k hk,e7]
      refine ⟨_,gN,?_⟩
      subst hi
      cases ok
      ·exact e6
      ·exact aK.vP (.cons e6 (.cons (.bool _) .nil))
    ·cases hi
   ·cases hi
 ·cases hi
end
end
section
inductive oX (ρ:bk):List (ByteArray×Value)->List MapEntry->Prop
 | nil:oX ρ [] []
 | cons {k:ByteArray} {v:Value} {en:MapEntry} {es:List (ByteArray×Value)} {bn:List MapEntry}:en.key=.string k->aK ρ v en.val->oX ρ es bn->oX ρ ((k,v)::es) (en::bn)
theorem oX.of {ρ:bk}:∀{es:List (ByteArray×Value)} {bn:List MapEntry},bn.length=es.length->
  (∀(j:Nat) (k:ByteArray) (v:Value),es[j]?=some (k,v)->∃en,bn[j]?=some en/\en.key=.string k/\aK ρ v en.val)->oX ρ es bn
 | [],[],_,_=>.nil
 | (k,v)::es,en::bn,hl,h=>by
  obtain ⟨en',h1,h2,h3⟩:=h 0 k v rfl
  simp at h1;subst h1
  exact .cons h2 h3 (oX.of (by simpa using hl) λj k' v' hj=>by simpa using h (j+1) k' v' (by simpa using hj))
theorem oX.to {ρ:bk} {es:List (ByteArray×Value)} {bn:List MapEntry} (h:oX ρ es bn):
  bn.length=es.length/\∀(j:Nat) (k:ByteArray) (v:Value),es[j]?=some (k,v)->∃en,bn[j]?=some en/\en.key=.string k/\aK ρ v en.val:=by
 induction h with
 | nil=>exact ⟨rfl,λj k v hj=>by simp at hj⟩
 | cons h1 h2 _ ih=>
  refine ⟨by simp [ih.1],?_⟩
  intro j k v hj
  cases j with
  | zero=>simp at hj;obtain ⟨rfl,rfl⟩:=hj;exact ⟨_,rfl,h1,h2⟩
  | succ j=>simp at hj;simpa using ih.2 j k v hj
theorem aAf {ρ:bk} {es:List (ByteArray×Value)} {bn:List MapEntry} (h:oX ρ es bn) (k:ByteArray):∀i:Nat,
  (uM k es=none/\Instr.findNow .string (.string k) bn i=some none)∨
  (∃v v' j,uM k es=some v/\Instr.findNow .string (.string k) bn i=some (some (i+j,v'))/\aK ρ v v'/\(∃en,bn[j]?=some en/\en.key=.string k)):=by
 induction h with
 | nil=>intro i;exact .inl ⟨rfl,rfl⟩
 | cons h1 h2 _ ih=>
  rename_i k0 v0 en es bn _
  intro i
  by_cases hk:k=k0
  ·subst hk
   refine .inr ⟨v0,en.val,0,by simp [uM],?_,h2,en,rfl,h1⟩
   have hb:(k==k)=true:=(MapKept.bytes_beq k k).2 rfl
   simp [Instr.findNow,h1,Instr.sameNow,hb]
  ·have hb:(k==k0)=false:=by
    rw [Bool.eq_false_iff]
    exact λe=>hk ((MapKept.bytes_beq k k0).1 e)
   rcases ih (i+1) with ⟨e1,e2⟩ | ⟨v,v',j,e1,e2,e3,e4⟩
   ·refine .inl ⟨by simp [uM,hk,e1],?_⟩
    simp [Instr.findNow,h1,Instr.sameNow,hb,e2]
   ·refine .inr ⟨v,v',j+1,by simp [uM,hk,e1],?_,e3,?_⟩
    ·simp [Instr.findNow,h1,Instr.sameNow,hb,e2];omega
    ·simpa using e4
inductive oY (kd:IntKind) (ρ:bk):List (Int×Value)->List MapEntry->Prop
 | nil:oY kd ρ [] []
 | cons {k:Int} {v:Value} {en:MapEntry} {es:List (Int×Value)} {bn:List MapEntry}:en.key=.int kd k->aK ρ v en.val->oY kd ρ es bn->oY kd ρ ((k,v)::es) (en::bn)
theorem oY.of {kd:IntKind} {ρ:bk}:∀{es:List (Int×Value)} {bn:List MapEntry},bn.length=es.length->
  (∀(j:Nat) (k:Int) (v:Value),es[j]?=some (k,v)->∃en,bn[j]?=some en/\en.key=.int kd k/\aK ρ v en.val)->oY kd ρ es bn
 | [],[],_,_=>.nil
 | (k,v)::es,en::bn,hl,h=>by
  obtain ⟨en',h1,h2,h3⟩:=h 0 k v rfl
  simp at h1;subst h1
  exact .cons h2 h3 (oY.of (by simpa using hl) λj k' v' hj=>by simpa using h (j+1) k' v' (by simpa using hj))
theorem oY.to {kd:IntKind} {ρ:bk} {es:List (Int×Value)} {bn:List MapEntry} (h:oY kd ρ es bn):
  bn.length=es.length/\∀(j:Nat) (k:Int) (v:Value),es[j]?=some (k,v)->∃en,bn[j]?=some en/\en.key=.int kd k/\aK ρ v en.val:=by
 induction h with
 | nil=>exact ⟨rfl,λj k v hj=>by simp at hj⟩
 | cons h1 h2 _ ih=>
  refine ⟨by simp [ih.1],?_⟩
  intro j k v hj
  cases j with
  | zero=>simp at hj;obtain ⟨rfl,rfl⟩:=hj;exact ⟨_,rfl,h1,h2⟩
  | succ j=>simp at hj;simpa using ih.2 j k v hj
theorem aAg {kd:IntKind} {ρ:bk} {es:List (Int×Value)} {bn:List MapEntry} (h:oY kd ρ es bn) (k:Int):∀i:Nat,
  (uL k es=none/\Instr.findNow (.int kd) (.int kd k) bn i=some none)∨
  (∃v v' j,uL k es=some v/\Instr.findNow (.int kd) (.int kd k) bn i=some (some (i+j,v'))/\aK ρ v v'/\(∃en,bn[j]?=some en/\en.key=.int kd k)):=by
 induction h with
 | nil=>intro i;exact .inl ⟨rfl,rfl⟩
 | cons h1 h2 _ ih=>
  rename_i k0 v0 en es bn _
  intro i
  by_cases hk:k=k0
  ·subst hk
   refine .inr ⟨v0,en.val,0,by simp [uL],?_,h2,en,rfl,h1⟩
   have hb:(k==k)=true:=beq_self_eq_true k
   simp [Instr.findNow,h1,Instr.sameNow]
  ·have hb:(k==k0)=false:=by
    exact beq_false_of_ne hk
   rcases ih (i+1) with ⟨e1,e2⟩ | ⟨v,v',j,e1,e2,e3,e4⟩
   ·refine .inl ⟨by simp [uL,hk,e1],?_⟩
    simp [Instr.findNow,h1,Instr.sameNow,hb,e2]
   ·refine .inr ⟨v,v',j+1,by simp [uL,hk,e1],?_,e3,?_⟩
    ·simp [Instr.findNow,h1,Instr.sameNow,hb,e2];omega
    ·simpa using e4
section
variable {P : Program} {w : World} {ρ : bk} {h : ae}
theorem afM {t:TypeId} (h:isString P t=true):P.underlying t=some .string:=by
 unfold isString at h
 split at h
 ·assumption
 ·cases h
theorem run_checkKey (b:Bool) {kt:TypeId} (hk:P.underlying kt=some .string) (k:ByteArray):(Instr.checkKey b 10000 kt (.string k)).run P w=.ok () w:=by
 rw [show (10000:Nat)=9999+1 from rfl,Instr.checkKey]
 simp [run_underlying hk]
theorem run_findKey {kt:TypeId} (hk:P.underlying kt=some .string) (k:ByteArray) (bn:List MapEntry) {r:Option (Nat×Value)} (hr:Instr.findNow .string (.string k) bn 0=some r):
  (Instr.findKey kt (.string k) bn).run P w=.ok r w:=by
 simp [Instr.findKey,run_underlying hk,hr]
theorem JS (b:Bool) {kt:TypeId} {kd:IntKind} (hk:P.underlying kt=some (.int kd)) (k:Int):(Instr.checkKey b 10000 kt (.int kd k)).run P w=.ok () w:=by
 rw [show (10000:Nat)=9999+1 from rfl,Instr.checkKey]
 simp [run_underlying hk]
theorem JT {kt:TypeId} {kd:IntKind} (hk:P.underlying kt=some (.int kd)) (k:Int) (bn:List MapEntry) {r:Option (Nat×Value)} (hr:Instr.findNow (.int kd) (.int kd k) bn 0=some r):
  (Instr.findKey kt (.int kd k) bn).run P w=.ok r w:=by
 simp [Instr.findKey,run_underlying hk,hr]
theorem bN.bn (H:bN P ρ h w) {i:Nat} {r:RI} {es:List (ByteArray×Value)} (hi:ρ i=some r) (he:h[i]?=some (.smap es)):
  ∃bn clock,w.heap[r.cZ]?=some (.map bn clock)/\oX ρ es bn.toList:=by
 obtain ⟨o,ho,hr⟩:=H.obj i r hi
 rw [he] at ho
 cases ho
 obtain ⟨bn,clock,h1,h2,h3⟩:=hr
 exact ⟨bn,clock,h1,oX.of (by simpa using h2) (by simpa using h3)⟩
theorem bN.adK (H:bN P ρ h w) {i:Nat} {r:RI} {kd:IntKind} {es:List (Int×Value)} (hi:ρ i=some r) (he:h[i]?=some (.mT kd es)):
  ∃bn clock,w.heap[r.cZ]?=some (.map bn clock)/\oY kd ρ es bn.toList:=by
 obtain ⟨o,ho,hr⟩:=H.obj i r hi
 rw [he] at ho
 cases ho
 obtain ⟨bn,clock,h1,h2,h3⟩:=hr
 exact ⟨bn,clock,h1,oY.of (by simpa using h2) (by simpa using h3)⟩
theorem run_getObj_map {b:Nat} {bn:Array MapEntry} {clock:Nat} (hb:w.heap[b]?=some (.map bn clock)):(getObj b).run P w=.ok (.map bn clock) w:=by
 simp [getObj,Sem.run,hb]
theorem aoi {t:TypeId} {z:Value} (hz:BE P t=some z):(∀w,(zeroValue t).run P w=.ok z w)/\mM z=true:=by
 unfold BE at hz
 split at hz
 ·rename_i i hi
  split at hz
  ·rename_i z' yV
   split at hz
   ·rename_i hc
    simp at hz;subst hz
    simp [Ar] at hc
    exact ⟨λw=>zF w hi yV,hc.1⟩
   ·cases hz
  ·cases hz
 ·cases hz
theorem aJV (H:bN P ρ h w) {t kt et:TypeId} {ok:Bool} {z m m' k k' v:Value} (ht:P.underlying t=some (.map kt et)) (hk:isString P kt=true) (hz:BE P et=some z)
  (hi:Iz ok z h m k=some v) (hm:aK ρ m m') (qh:aK ρ k k'):∃v',(Instr.lookup t m' k' ok).run P w=.ok v' w/\aK ρ v v':=by
 unfold Iz at hi
 split at hi
 ·rename_i i key
  rw [qh.vO]
  cases hm with
  | map hr=>
   rename_i r
   split at hi
   ·rename_i es he
    obtain ⟨bn,clock,hb,yC⟩:=H.bn hr he
    obtain ⟨pU,oF⟩:=aoi hz
    have mQ:=afM hk
    rcases aAf yC key 0 with ⟨e1,e2⟩ | ⟨u,u',j,e1,e2,e3,_⟩
    ·rw [e1] at hi
     simp at hi
     have gN:(Instr.lookup t (.map (some r.cZ)) (.string key) ok).run P w=.ok (if ok then .tuple #[z,.bool false] else z) w:=by
      simp [Instr.lookup,run_underlying ht,run_getObj_map hb,run_checkKey _ mQ,run_findKey mQ key _ e2,pU]
     refine ⟨_,gN,?_⟩
     subst hi
     cases ok
     ·exact mM.rel oF
     ·exact aK.vP (.cons (mM.rel oF) (.cons (.bool _) .nil))
    ·rw [e1] at hi
     simp at hi
     have gN:(Instr.lookup t (.map (some r.cZ)) (.string key) ok).run P w=.ok (if ok then .tuple #[u',.bool true] else u') w:=by
      simp [Instr.lookup,run_underlying ht,run_getObj_map hb,run_checkKey _ mQ,run_findKey mQ key _ e2]
     refine ⟨_,gN,?_⟩
     subst hi
     cases ok
     ·exact e3
     ·exact aK.vP (.cons e3 (.cons (.bool _) .nil))
   ·cases hi
 ·cases hi
theorem afL {t:TypeId} {kd:IntKind} (h:ze P t=some kd):P.underlying t=some (.int kd):=by
 unfold ze at h
 split at h
 ·simp at h;subst h;assumption
 ·cases h
theorem aJX (H:bN P ρ h w) {t kt et:TypeId} {kd:IntKind} {ok:Bool} {z m m' k k' v:Value} (ht:P.underlying t=some (.map kt et)) (hk:ze P kt=some kd) (hz:BE P et=some z)
  (hi:IB kd ok z h m k=some v) (hm:aK ρ m m') (qh:aK ρ k k'):∃v',(Instr.lookup t m' k' ok).run P w=.ok v' w/\aK ρ v v':=by
 unfold IB at hi
 split at hi
 ·rename_i i Bc key
  rw [qh.kT]
  cases hm with
  | map hr=>
   rename_i r
   split at hi
   ·rename_i nY es he
    split at hi
    ·rename_i px
     obtain ⟨rfl,rfl⟩:=px
     obtain ⟨bn,clock,hb,yC⟩:=H.adK hr he
     obtain ⟨pU,oF⟩:=aoi hz
     have mQ:=afL hk
     rcases aAg yC key 0 with ⟨e1,e2⟩ | ⟨u,u',j,e1,e2,e3,_⟩
     ·rw [e1] at hi
      simp at hi
      have gN:(Instr.lookup t (.map (some r.cZ)) (.int nY key) ok).run P w=.ok (if ok then .tuple #[z,.bool false] else z) w:=by
       simp [Instr.lookup,run_underlying ht,run_getObj_map hb,JS _ mQ,JT mQ key _ e2,pU]
      refine ⟨_,gN,?_⟩
      subst hi
      cases ok
      ·exact mM.rel oF
      ·exact aK.vP (.cons (mM.rel oF) (.cons (.bool _) .nil))
     ·rw [e1] at hi
      simp at hi
      have gN:(Instr.lookup t (.map (some r.cZ)) (.int nY key) ok).run P w=.ok (if ok then .tuple #[u',.bool true] else u') w:=by
       simp [Instr.lookup,run_underlying ht,run_getObj_map hb,JS _ mQ,JT mQ key _ e2]
      refine ⟨_,gN,?_⟩
      subst hi
      cases ok
      ·exact e3
      ·exact aK.vP (.cons e3 (.cons (.bool _) .nil))
    ·cases hi
   ·cases hi
 ·cases hi
theorem aCY {o:Oper} {lo:qM} {g g':Operand->Value} (hc:uI P o.op=some lo) (bc:o.op.operands.all kF=true) (H:bN P ρ h w)
  (hg:∀x,kF x=true->aK ρ (g x) (g' x)) {v:Value} (hi:ie lo g h=some v):∃v',(execOp g' o).run P w=.ok (.value v') w/\aK ρ v v':=by
 cases ho:o.op with
 | load t a=>
  rw [ho] at hc bc
  simp [Op.operands] at bc
  simp only [uI] at hc
  split at hc
  ·rename_i d ht
   split at hc
   ·rename_i hk
    simp at hc;subst hc
    simp only [and_eq_true] at hk
    obtain ⟨v',h1,h2⟩:=anx H ht hk.1 hi (hg a bc)
    exact ⟨v',by simp [execOp,ho,h1],h2⟩
   ·cases hc
  ·cases hc
 | entry it=>
  rw [ho] at hc bc
  simp [Op.operands] at bc
  simp [uI] at hc;subst hc
  obtain ⟨v',h1,h2⟩:=aJO H hi (hg it bc)
  exact ⟨v',by simp [execOp,ho,h1],h2⟩
 | convert s d x=>
  rw [ho] at hc bc
  simp [Op.operands] at bc
  simp only [uI] at hc
  split at hc
  ·rename_i e hs hd
   split at hc
   ·rename_i he
    simp at hc;subst hc
    have hx:=hg x bc
    obtain ⟨h1,h2⟩:=aJH H hi hx
    refine ⟨v,?_,h2⟩
    have:(convert s d (g' x)).run P w=.ok v w:=by
     simp only [ie,ry,bind_eq_some_iff] at hi
     obtain ⟨cs,mP,_⟩:=hi
     rcases DY H mP hx with ⟨e1,_⟩ | ⟨b,o',n,c',e1,_⟩
     ·rw [e1] at h1⊢;rw [run_convert_bytes_string w s d e _ _ _ hs he hd];exact h1
     ·rw [e1] at h1⊢;rw [run_convert_bytes_string w s d e _ _ _ hs he hd];exact h1
    simp [execOp,ho,this]
   ·cases hc
  ·cases hc
 | lookup t m k ok=>
  rw [ho] at hc bc
  simp [Op.operands] at bc
  simp only [uI] at hc
  split at hc
  ·rename_i g lF
   split at hc
   ·rename_i kt et ht
    simp only [map_eq_some_iff] at hc
    obtain ⟨z,hz,rfl⟩:=hc
    obtain ⟨v',h1,h2⟩:=aJW H lF ht hz hi (hg m bc.1) (hg k bc.2)
    exact ⟨v',by simp [execOp,ho,h1],h2⟩
   ·cases hc
  split at hc
  ·rename_i kt et ht
   split at hc
   ·rename_i hk
    simp only [map_eq_some_iff] at hc
    obtain ⟨z,hz,rfl⟩:=hc
    obtain ⟨v',h1,h2⟩:=aJV H ht hk hz hi (hg m bc.1) (hg k bc.2)
    exact ⟨v',by simp [execOp,ho,h1],h2⟩
   ·simp only [bind_eq_some_iff,map_eq_some_iff] at hc
    obtain ⟨kd,px,z,hz,rfl⟩:=hc
    obtain ⟨v',h1,h2⟩:=aJX H ht px hz hi (hg m bc.1) (hg k bc.2)
    exact ⟨v',by simp [execOp,ho,h1],h2⟩
  ·cases hc
 | _=>rw [ho] at hc;simp [uI] at hc
end
end
section
theorem JW {xs:List Value} {o:Nat} {vs:List Value} (h:o+vs.length<=xs.length) (j:Nat):
  (setAt xs o vs)[j]?=if j<o then xs[j]? else if j<o+vs.length then vs[j-o]? else xs[j]?:=by
 have hl:(xs.take o).length=o:=by simp;omega
 unfold setAt
 by_cases h1:j<o
 ·rw [if_pos h1,List.append_assoc,getElem?_append_left (by omega),getElem?_take,if_pos h1]
 ·rw [if_neg h1]
  by_cases h2:j<o+vs.length
  ·rw [if_pos h2,List.append_assoc,List.getElem?_append_right (by omega),hl,getElem?_append_left (by omega)]
  ·rw [if_neg h2,List.getElem?_append_right (by simp;omega),List.getElem?_drop]
   congr 1
   simp
   omega
theorem DT {xs:List Value} {o:Nat} {vs:List Value} (h:o+vs.length<=xs.length):(setAt xs o vs).length=xs.length:=by
 unfold setAt
 simp
 omega
theorem ja.le {ρ:bk} {c:Array Value} {xs:List Value} (h:ja ρ c 0 xs):xs.length<=c.size:=by
 rcases Nat.eq_zero_or_pos xs.length with hz | hz
 ·omega
 ·have hx:xs[xs.length-1]?=some (xs[xs.length-1]'(by omega)):=List.getElem?_eq_getElem _
  obtain ⟨_,y,hy,_⟩:=h _ _ hx
  have:=(Array.getElem?_eq_some_iff.1 hy).1
  omega
theorem ja.put {ρ:bk} {c:Array Value} {xs:List Value} {o:Nat} {vs kX:List Value} (h:ja ρ c 0 xs) (hv:dw ρ vs kX) (h1:∀x∈vs,jv x=true) (hl:o+vs.length<=xs.length):
  ja ρ (setAt c.toList o kX).toArray 0 (setAt xs o vs):=by
 intro j x hj
 have gM:=h.le
 have hlen:=hv.length
 rw [JW hl] at hj
 have e:(setAt c.toList o kX).toArray[0+j]?=if j<o then c.toList[j]? else if j<o+kX.length then kX[j-o]? else c.toList[j]?:=by
  rw [zero_add,List.getElem?_toArray,JW (by simp;omega)]
 rw [e]
 by_cases h1':j<o
 ·rw [if_pos h1'] at hj⊢
  obtain ⟨q1,y,q2,q3⟩:=h j x hj
  exact ⟨q1,y,by simpa using q2,q3⟩
 ·rw [if_neg h1'] at hj⊢
  by_cases h2:j<o+vs.length
  ·rw [if_pos h2] at hj
   rw [if_pos (by omega)]
   obtain ⟨y,q2,q3⟩:=hv.get hj
   exact ⟨h1 x (mem_of_getElem? hj),y,q2,q3⟩
  ·rw [if_neg h2] at hj
   rw [if_neg (by omega)]
   obtain ⟨q1,y,q2,q3⟩:=h j x hj
   exact ⟨q1,y,by simpa using q2,q3⟩
theorem adP (z:List Value) (n:Nat):∀(j:Nat),j<n*z.length->(List.replicate n z).flatten[j]?=z[j%z.length]?:=by
 induction n with
 | zero=>intro j hj;simp at hj
 | succ n ih=>
  intro j hj
  rw [List.replicate_succ,List.flatten_cons]
  by_cases h:j<z.length
  ·rw [getElem?_append_left h,Nat.mod_eq_of_lt h]
  ·have e:j%z.length=(j-z.length)%z.length:=by rw [Nat.mod_eq_sub_mod (by omega)]
   rw [List.getElem?_append_right (by omega),ih _ (by rw [add_mul] at hj;omega),e]
theorem VI (z:List Value) (n:Nat):(bE z n).length=n*z.length:=by
 induction n with
 | zero=>simp [bE]
 | succ n ih=>simp only [bE,List.replicate_succ,List.flatten_cons,List.length_append] at ih⊢;rw [ih,add_mul];omega
theorem aoj {z:List Value} {n:Nat} {p:Value->Prop} (h:∀x∈z,p x):∀x∈bE z n,p x:=by
 intro x hx
 simp only [bE,List.mem_flatten,List.mem_replicate] at hx
 obtain ⟨l,⟨_,rfl⟩,hm⟩:=hx
 exact h x hm
theorem agk (z:Array Value) (m j:Nat) (hj:j<m) (hz:0<z.size):(madeCells z m)[j]?=z[j%z.size]?:=by
 have aw:j%z.size<z.size:=Nat.mod_lt _ hz
 simp [madeCells,hj,aw]
theorem aC2 (z:Value) (n k:Nat) (hk:(dL z).length=k):((Array.range (n*k)).map (z.cells[·%z.cells.size]!)).toList=bE (dL z) n:=by
 have hs:z.cells.size=k:=by rw [<-hk];simp [dL]
 apply List.ext_getElem?
 intro j
 by_cases hj:j<n*k
 ·have hz:0<z.cells.size:=by
   rcases Nat.eq_zero_or_pos k with h | h
   ·subst h;simp at hj
   ·omega
  have:=agk z.cells (n*k) j hj hz
  simp only [madeCells] at this
  rw [getElem?_toList,this,bE,adP _ _ _ (by rw [hk];exact hj)]
  simp [dL]
 ·rw [List.getElem?_eq_none (by simp;omega),List.getElem?_eq_none (by rw [VI,hk];omega)]
section
variable {P : Program} {w : World} {ρ : bk} {h : ae}
def kI (P:Program) (ρ:bk) (h:ae) (w:World) (v:Value) (h':ae) (s:Result Next):Prop:=
 ∃nx w' aN v',s=.ok nx w'/\(nx=.value v'∨(nx=.skip/\v'=undef))/\aK aN v v'/\bN P aN h' w'/\Tr ρ h w aN h' w'
theorem bN.arr (H:bN P ρ h w) {i:Nat} {r:RI} {e:TypeId} {xs:List Value} (hi:ρ i=some r) (hx:h[i]?=some (.arr e xs)):
  r.elem=e/\r.sh=0/\∃c,w.heap[r.cZ]?=some (.cells c e (0,0))/\c.size=r.size/\ja ρ c 0 xs:=by
 obtain ⟨o,ho,hr⟩:=H.obj i r hi
 rw [hx] at ho
 cases ho
 exact hr
theorem aJ7 (H:bN P ρ h w) {t:TypeId} {a a' v v':Value} {h':ae} (hk:jF P t=true) (hi:sw (P.cellsOf t) h a v=some h') (ha:aK ρ a a') (hv:aK ρ v v'):
  ∃w',(Instr.storeAt t a' v').run P w=.ok () w'/\bN P ρ h' w'/\Tr ρ h w ρ h' w':=by
 unfold sw at hi
 split at hi
 ·rename_i i o
  obtain ⟨r,hr,rfl⟩:=ha.DL
  split at hi
  ·rename_i e xs hx
   split at hi
   ·rename_i hc
    obtain ⟨qY,hl,hle⟩:=hc
    simp at hi;subst hi
    obtain ⟨h1,h2,c,h3,h4,h5⟩:=H.arr hr hx
    have A2:=hv.cells qY
    have qW:(dL v').length=P.cellsOf t:=by rw [<-A2.length];exact hl
    have ju:=run_storeCells_at P r.cZ o e (dL v') 0 c w h3 (by have:=h5.le;simp;omega) (A2.zw (hv.Hj qY))
    have heq:(c.toList.take (o+0)++dL v'++c.toList.drop (o+0+(dL v').length)).toArray=(setAt c.toList o (dL v')).toArray:=by simp [setAt]
    rw [heq] at ju
    have jD:fB h i:=.inl ⟨e,xs,hx⟩
    obtain ⟨q1,q2⟩:=H.set (o:=.arr e (setAt xs o (dL v))) hr jD (lP.row h3 (setAt c.toList o (dL v')).toArray)
     ⟨h1,h2,_,(lP.row h3 _).here,by simp [DT (show o+(dL v').length<=c.toList.length by have:=h5.le;simp;omega),h4],h5.put A2 (hv.Hj qY) (by omega)⟩
    refine ⟨_,?_,q1,q2⟩
    have nG:v'.cells.size=P.cellsOf t:=by rw [<-qW];simp [dL]
    have aBD:(storeCells ⟨r.cZ,r.sh+o,none⟩ v'.cells.toList).run P w=.ok () (w.setRow r.cZ (setAt c.toList o (dL v')).toArray):=by
     rw [h2,zero_add]
     exact ju
    simp [Instr.storeAt,Instr.sureAddr,storeVar,qD w hk,nG,aBD]
   ·cases hi
  ·cases hi
 ·cases hi
theorem Dt (H:bN P ρ h w) {w':World} {e:TypeId} {c:Array Value} {xs:List Value} (nb:kJ w (.cells c e) w') (hc:ja ρ c 0 xs):
  bN P (ρ.add h.length ⟨w.heap.size,0,e,P.cellsOf e,c.size⟩) (h++[.arr e xs]) w'/\Tr ρ h w (ρ.add h.length ⟨w.heap.size,0,e,P.cellsOf e,c.size⟩) (h++[.arr e xs]) w':=
 H.new nb rfl rfl rfl (λ_=>.inl rfl) ⟨rfl,rfl,c,nb.new,rfl,hc.mono (bk.vE H.none)⟩
theorem Ap (ρ:bk) (i:Nat) (r:RI):ρ.add i r i=some r:=by simp [bk.add]
theorem agJ (ρ:bk) (h:ae) (r:RI) (hs:r.sh=0):aK (ρ.add h.length r) (Bk h) (.pointer (some ⟨r.cZ,0,none⟩)):=by
 have:=aK.ptr (ρ:=ρ.add h.length r) (i:=h.length) (o:=0) (Ap _ _ _)
 rw [hs] at this
 exact this
theorem DX (ρ:bk) (i:Nat) (r:RI) (hs:r.sh=0) {n c':Nat} (hn:n<=c') (hc:c'<=maxLen) (hb:c'*r.esz<=r.size):aK (ρ.add i r) (sl r.elem i 0 n) (.slice (some ⟨r.cZ,0,none⟩) n c'):=
 aK.slice (Ap _ _ _) (.inl (by omega)) hn hc (by omega) ⟨le_refl _,hn⟩
theorem aJI (H:bN P ρ h w) {e:TypeId} {x x' v:Value} {h':ae} (hi:cR e h x=some (v,h')) (hx:aK ρ x x'):
  ∃w' aN v',(Instr.box e x').run P w=.ok v' w'/\aK aN v v'/\bN P aN h' w'/\Tr ρ h w aN h' w':=by
 unfold cR at hi
 split at hi
 ·rename_i qY
  simp at hi
  obtain ⟨rfl,rfl⟩:=hi
  have hc:ja ρ x'.cells 0 (dL x):=ja.of (hx.cells qY) (hx.Hj qY)
  obtain ⟨q1,q2⟩:=Dt H (kJ.alloc w (.cells x'.cells e)) hc
  exact ⟨_,_,_,by simp [Instr.box,newVar,newRow],agJ _ _ _ rfl,q1,q2⟩
 ·cases hi
theorem aJF (H:bN P ρ h w) {e:TypeId} {zs:List Value} (hz:zeroOf P e=some zs):
  ∃w' aN v',(Instr.alloc e true (.tuple #[])).run P w=.ok v' w'/\aK aN (Bk h) v'/\bN P aN (h++[.arr e zs]) w'/\Tr ρ h w aN (h++[.arr e zs]) w':=by
 obtain ⟨i,z,hi,qt,rfl,qY,gM,hlen⟩:=BF hz
 have hc:ja ρ z.cells 0 (dL z):=ja.of (dw.closed λx hx=>(gM x hx).1) (λx hx=>(gM x hx).2)
 obtain ⟨q1,q2⟩:=Dt H (kJ.alloc w (.cells z.cells e)) hc
 exact ⟨_,_,_,by simp [Instr.alloc,zF w hi qt,newVar,newRow],agJ _ _ _ rfl,q1,q2⟩
theorem OX {t:TypeId} {i:TypeInfo} (hi:P.info? t=some i):P.cellsOf t=i.size:=by simp [Program.cellsOf,hi]
theorem Yp {t:TypeId} {i:TypeInfo} (hi:P.info? t=some i):P.bytesOf t=i.bytes:=by simp [Program.bytesOf,hi]
theorem aJ2 (H:bN P ρ h w) {t e:TypeId} {n:Nat} {zs:List Value} {ps:List (Nat×Nat×Value)} {qs:Array (Nat×Value)} {v:Value} {h':ae} (ht:P.underlying t=some (.slice e)) (hz:zeroOf P e=some zs)
  (hn:n*P.cellsOf e<=16777216) (bY:P.cellsOf e≠0) (hp:uz ρ (λi=>some (i*P.cellsOf e,P.cellsOf e)) ps qs.toList) (hi:cH e n zs h ps=some (v,h')):
  ∃w' aN v',(Instr.buildSlice t n qs).run P w=.ok v' w'/\aK aN v v'/\bN P aN h' w'/\Tr ρ h w aN h' w':=by
 obtain ⟨i,z,nW,qt,rfl,qY,gM,hlen⟩:=BF hz
 have hk:jF P e=true:=by simp [jF,nW]
 have qU:=OX nW
 simp only [cH,map_eq_some_iff,Prod.mk.injEq] at hi
 obtain ⟨cs,hf,rfl,rfl⟩:=hi
 obtain ⟨zero,su,hzl⟩:∃zero:Array Value,(if n*P.cellsOf e=0 then (Pure.pure #[]:Sem (Array Value)) else do pure (<-zeroValue e).cells).run P w=.ok zero w/\
   ((Array.range (n*P.cellsOf e)).map (zero[·%zero.size]!)).toList=bE (dL z) n:=by
  by_cases h0:n*P.cellsOf e=0
  ·refine ⟨#[],by simp [h0],?_⟩
   have oB:n=0:=by
    rcases Nat.mul_eq_zero.1 h0 with h | h
    ·exact h
    ·exact absurd h bY
   subst oB
   simp [bE,Array.range_zero']
  ·exact ⟨z.cells,by simp [h0,zF w nW qt],by rw [qU];exact aC2 z n i.size hlen⟩
 have aAN:dw ρ (bE (dL z) n) (bE (dL z) n):=dw.closed (aoj λx hx=>(gM x hx).1)
 obtain ⟨kj,AN,hr,h1,tJ⟩:=Pv (ys:=(Array.range (n*P.cellsOf e)).map (zero[·%zero.size]!)) hp hf (by rw [hzl];exact aAN) (aoj λx hx=>(gM x hx).2)
 obtain ⟨q1,q2⟩:=Dt H (kJ.alloc w (.cells kj e)) (ja.of hr h1)
 have nG:kj.size=n*P.cellsOf e:=by
  have:=hr.length
  rw [tJ,VI,hlen,<-qU] at this
  simpa using this.symm
 have hnm:n<=maxLen:=by
  have h1:1<=P.cellsOf e:=by omega
  have:=Nat.mul_le_mul_left n h1
  unfold maxLen
  omega
 refine ⟨_,_,.slice (some ⟨w.heap.size,0,none⟩) n n,?_,DX ρ h.length ⟨w.heap.size,0,e,P.cellsOf e,kj.size⟩ rfl (le_refl _) hnm (by simp [nG]),q1,q2⟩
 unfold Instr.buildSlice
 simp only [Sem.run_bind,run_underlying ht,Result.andThen_ok,qD w hk]
 have h24:¬(n*P.cellsOf e>2^24):=by rw [show (2^24:Nat)=16777216 from rfl];omega
 rw [if_neg h24]
 by_cases h0:n*P.cellsOf e=0
 ·rw [if_pos h0] at su⊢
  simp only [Sem.run_pure,Result.ok.injEq,and_true] at su
  subst su
  simp only [Sem.run_bind,Sem.run_pure,Result.andThen_ok,AN]
  simp [newRow]
 ·rw [if_neg h0] at su⊢
  simp only [Sem.run_bind,Sem.run_pure] at su⊢
  rw [zF w nW qt] at su⊢
  simp only [Result.andThen_ok,Result.ok.injEq,and_true] at su⊢
  subst su
  rw [AN]
  simp [newRow]
end
end
section
section
variable {P : Program} {w : World} {ρ : bk} {h : ae}
theorem aJY (H:bN P ρ h w) {t e:TypeId} {zs:List Value} {l c l' c' v:Value} {h':ae} (ht:P.underlying t=some (.slice e)) (hz:zeroOf P e=some zs)
  (hi:eM e (P.bytesOf e) zs h l c=some (v,h')) (hl:aK ρ l l') (hc:aK ρ c c'):
  ∃w' aN v',(Instr.makeSlice t l' c').run P w=.ok v' w'/\aK aN v v'/\bN P aN h' w'/\Tr ρ h w aN h' w':=by
 obtain ⟨i,z,nW,qt,rfl,qY,gM,hlen⟩:=BF hz
 unfold eM at hi
 split at hi
 ·rename_i k1 l k2 c
  rw [hl.kT,hc.kT]
  split at hi
  ·rename_i hb
   obtain ⟨h0,h1,h2,h3⟩:=hb
   simp at hi
   obtain ⟨rfl,rfl⟩:=hi
   rw [Yp nW] at h2
   have gN:=run_make (P:=P) w t e i z ht nW qt k1 k2 l c h0 h1 h2 h3
   have yy:ja ρ (madeCells z.cells (c.toNat*i.size)) 0 (bE (dL z) l.toNat):=by
    intro j x hj
    have mC:j<l.toNat*i.size:=by
     have:=(cm hj).1
     rwa [VI,hlen] at this
    have QU:z.cells.size=i.size:=by rw [<-hlen];simp [dL]
    have iO:0<z.cells.size:=by
     rcases Nat.eq_zero_or_pos i.size with q | q
     ·rw [q] at mC;simp at mC
     ·omega
    have Qp:l.toNat*i.size<=c.toNat*i.size:=Nat.mul_le_mul_right _ (by omega)
    rw [bE,adP _ _ _ (by rw [hlen];exact mC)] at hj
    have hx:x∈dL z:=mem_of_getElem? hj
    refine ⟨(gM x hx).2,x,?_,mM.rel (gM x hx).1⟩
    rw [zero_add,agk _ _ _ (by omega) iO]
    simpa [dL] using hj
   obtain ⟨q1,q2⟩:=Dt H (kJ.alloc w (.cells (madeCells z.cells (c.toNat*i.size)) e)) yy
   refine ⟨_,_,_,gN,?_,q1,q2⟩
   exact DX ρ h.length ⟨w.heap.size,0,e,P.cellsOf e,(madeCells z.cells (c.toNat*i.size)).size⟩ rfl (by omega) (by unfold maxLen;omega) (by simp [size_madeCells,OX nW])
  ·cases hi
 ·cases hi
theorem anr {t e:TypeId} {i:TypeInfo} (ht:P.underlying t=some (.slice e)) (hi:P.info? e=some i) (type:TypeId) (b:Option Addr) (n c:Nat) (x:Value) (hn:n<=c)
  (hx:x=.slice none 0 0∨∃a c2,x=.slice (some a) 0 c2):(Builtin.append_ #[t,t] type #[.slice b n c,x]).run P w=.ok (.slice b n c) w:=by
 rcases hx with rfl | ⟨a,c2,rfl⟩
 ·cases b <;> simp [Builtin.append_,run_underlying ht,sizeOf,typeInfo,hi,Builtin.lenOf,hn,Builtin.firstCells,storeCells]
 ·cases b <;> simp [Builtin.append_,run_underlying ht,sizeOf,typeInfo,hi,Builtin.lenOf,hn,Builtin.firstCells,loadCells,loadCellsFrom,storeCells]
theorem OY {ρ:bk} {c:Array Value} {xs ys zs:List Value} (hx:∀(j:Nat) (x:Value),xs[j]?=some x->jv x=true/\∃y,c[j]?=some y/\aK ρ x y) (hz:dw ρ zs ys) (h1:∀x∈zs,jv x=true)
  (hc:∀(j:Nat) (y:Value),ys[j]?=some y->c[xs.length+j]?=some y):ja ρ c 0 (xs++zs):=by
 intro j x hj
 by_cases aw:j<xs.length
 ·rw [getElem?_append_left aw] at hj
  simpa using hx j x hj
 ·rw [List.getElem?_append_right (by omega)] at hj
  obtain ⟨y,hy,hr⟩:=hz.get hj
  refine ⟨h1 x (mem_of_getElem? hj),y,?_,hr⟩
  have:=hc _ y hy
  rw [<-this]
  congr 1
  omega
theorem aJG (H:bN P ρ h w) {t e:TypeId} {zs:List Value} {type:TypeId} {s x s' x' v:Value} {h':ae} (ht:P.underlying t=some (.slice e)) (hz:zeroOf P e=some zs)
  (hi:cT e (P.cellsOf e) (P.bytesOf e) h s x=some (v,h')) (hs:aK ρ s s') (hx:aK ρ x x'):
  ∃w' aN v',(Builtin.append_ #[t,t] type #[s',x']).run P w=.ok v' w'/\aK aN v v'/\bN P aN h' w'/\Tr ρ h w aN h' w':=by
 obtain ⟨i,z,nW,qt,rfl,qY,gM,hlen⟩:=BF hz
 have qU:=OX nW
 have hbe:=Yp nW
 have QU:z.cells.size=i.size:=by rw [<-hlen];simp [dL]
 unfold cT at hi
 split at hi
 ·rename_i news m hn hm
  have hxx:=DY H hn hx
  have su:m=0->(x'=.slice none 0 0∨∃a c2,x'=.slice (some a) 0 c2):=by
   intro nC
   rcases hxx with ⟨e1,_⟩ | ⟨b,o,n2,c2,e1,e2,_⟩
   ·exact .inl e1
   ·rw [hm] at e2;cases e2;subst nC;exact .inr ⟨_,_,e1⟩
  have QI:0<m->∃b o c2,x'=.slice (some ⟨b,o,none⟩) m c2/\news.length=m*i.size/\(∀v∈news,jv v=true)/\
    ∃ys,dw ρ news ys/\ys.length=m*i.size/\∀j v,ys[j]?=some v->w.cell? ((⟨b,o,none⟩:Addr).add j)=some v:=by
   intro nC
   rcases hxx with ⟨e1,e2⟩ | ⟨b,o,n2,c2,e1,e2,e3,e4,ys,e5,e6⟩
   ·subst e1
    cases hx
    ·simp [iY] at hm
     omega
    ·simp [iY] at hm
   ·rw [hm] at e2;cases e2
    refine ⟨b,o,c2,e1,by rw [e3,qU],e4,ys,e5,by rw [<-e5.length,e3,qU],?_⟩
    intro j v hj
    rw [Addr.add_lit]
    exact e6 j v hj
  split at hi
  ·cases hs
   split at hi
   ·rename_i nC
    simp at hi
    obtain ⟨rfl,rfl⟩:=hi
    exact ⟨w,ρ,_,anr ht nW type none 0 0 x' (le_refl _) (su nC),.qw,H,Tr.refl H⟩
   ·rename_i nC
    split at hi
    ·rename_i hb
     obtain ⟨pO,AJ⟩:=hb
     simp at hi
     obtain ⟨rfl,rfl⟩:=hi
     obtain ⟨b,o,c2,rfl,f1,f2,ys,f3,f4,f5⟩:=QI (by omega)
     have gN:=run_append_nil (P:=P) w t type e i z ht nW qt ⟨b,o,none⟩ m c2 ys f4 f5 (by omega) (by unfold maxLen at AJ;omega) (by rw [<-hbe];omega)
     have cJ:=grownCap_ge w m 0 e
     have yy:ja ρ (ys.toArray++Builtin.zeroCells z.cells (grownCap w m 0 e-m)) 0 news:=by
      have:=OY (ρ:=ρ) (c:=ys.toArray++Builtin.zeroCells z.cells (grownCap w m 0 e-m)) (xs:=[]) (ys:=ys) (zs:=news) (by simp) f3 f2 (by
       intro j y hj
       have aw:=(cm hj).1
       rw [Array.getElem?_append_left (by simpa using aw)]
       simpa using hj)
      simpa using this
     obtain ⟨q1,q2⟩:=Dt H (kJ.drew w (.cells (ys.toArray++Builtin.zeroCells z.cells (grownCap w m 0 e-m)) e)) yy
     refine ⟨_,_,_,gN,?_,q1,q2⟩
     refine DX ρ h.length ⟨w.heap.size,0,e,P.cellsOf e,(ys.toArray++Builtin.zeroCells z.cells (grownCap w m 0 e-m)).size⟩ rfl cJ (grownCap_le_maxLen w m 0 e AJ) ?_
     simp only [Array.size_append,List.size_toArray,size_zeroCells,f4,QU,qU]
     rw [<-add_mul]
     exact Nat.mul_le_mul_right _ (by omega)
    ·cases hi
  ·rename_i ii e' n cc
   split at hi
   ·rename_i Ph xs A4
    split at hi
    ·rename_i hb
     obtain ⟨rfl,rfl,HZ,hb4,hb5⟩:=hb
     have hs0:=hs
     cases hs with
     | slice hr ho hnc H6 wF ek=>
      rename_i o' c' r
      obtain ⟨g1,g2,c,g3,g4,g5⟩:=H.arr hr A4
      obtain rfl:o'=0:=by
       rcases ho with ho | ⟨_,q,_⟩
       ·omega
       ·omega
      have kP:=H.esz _ _ hr
      split at hi
      ·rename_i nC
       simp at hi
       obtain ⟨rfl,rfl⟩:=hi
       exact ⟨w,ρ,_,anr ht nW type _ n c' x' hnc (su nC),hs0,H,Tr.refl H⟩
      ·rename_i nC
       simp at hi
       obtain ⟨rfl,rfl⟩:=hi
       obtain ⟨b,o,c2,rfl,f1,f2,ys,f3,f4,f5⟩:=QI (by omega)
       rw [qU] at HZ
       have yD:r.esz=i.size:=by rw [kP,qU]
       have jD:fB h ii:=.inl ⟨_,xs,A4⟩
       by_cases AX:n+m<=c'
       ·have uW:n*i.size+ys.length<=c.size:=by
         rw [f4,g4,<-add_mul]
         have:=Nat.mul_le_mul_right i.size AX
         rw [yD] at wF
         omega
        have gN:=run_append_room (P:=P) w t type r.elem i ht nW r.cZ n c' c g3 ⟨b,o,none⟩ m c2 ys f4 f5 (f3.zw f2) AX uW
        have mP:(c.toList.take (n*i.size)++ys++c.toList.drop (n*i.size+ys.length)).toArray=(setAt c.toList (n*i.size) ys).toArray:=rfl
        rw [mP] at gN
        have nG:(setAt c.toList (n*i.size) ys).toArray.size=c.size:=by simp [DT (show n*i.size+ys.length<=c.toList.length by simpa using uW)]
        have yy:ja ρ (setAt c.toList (n*i.size) ys).toArray 0 (xs++news):=by
         refine OY (ys:=ys) ?_ f3 f2 ?_
         ·intro j x hj
          have aw:=(cm hj).1
          obtain ⟨k1,y,k2,k3⟩:=g5 j x hj
          refine ⟨k1,y,?_,k3⟩
          rw [List.getElem?_toArray,JW (by simpa using uW),if_pos (by omega)]
          simpa using k2
         ·intro j y hj
          have aw:=(cm hj).1
          rw [List.getElem?_toArray,JW (by simpa using uW),if_neg (by omega),if_pos (by omega)]
          rw [<-hj]
          congr 1
          omega
        have sb:=lP.row g3 (setAt c.toList (n*i.size) ys).toArray
        obtain ⟨q1,q2⟩:=H.move (o:=.arr r.elem (xs++news)) hr jD sb ⟨rfl,g2,_,sb.here,by rw [nG,g4],yy.mono (bk.vE H.none)⟩
        refine ⟨_,_,_,gN,?_,q1,q2⟩
        exact DX ρ h.length r g2 AX H6 (by omega)
       ·obtain ⟨RS,o1,o2,o3,o4⟩:=g5.Ve (o:=0) (n:=n*i.size) (by omega)
        have aBI:(xs.drop 0).take (n*i.size)=xs:=by rw [List.drop_zero];exact List.take_of_length_le (by omega)
        rw [aBI] at o1 o3
        have Io:∀j v,RS[j]?=some v->w.cell? ((⟨r.cZ,0,none⟩:Addr).add j)=some v:=by
         intro j v hj
         rw [Addr.add_lit,Cb g3]
         simpa using o4 j v hj
        have aew:=growslice_fits (need:=n+m) (old:=c') (bytes:=P.bytesOf r.elem) (by omega) hb4
        rw [hbe] at aew
        have gN:=run_append_grow (P:=P) w t type r.elem i z ht nW qt ⟨r.cZ,0,none⟩ n c' RS o2 Io ⟨b,o,none⟩ m c2 ys f4 f5 (by omega) (by unfold maxLen at hb5;omega) aew
        have cJ:=grownCap_ge w (n+m) c' r.elem
        generalize uS:RS.toArray++ys.toArray++Builtin.zeroCells z.cells (grownCap w (n+m) c' r.elem-(n+m))=cc at gN
        have aAM:cc.size=n*i.size+m*i.size+(grownCap w (n+m) c' r.elem-(n+m))*i.size:=by
         rw [<-uS];simp only [Array.size_append,List.size_toArray,size_zeroCells,o2,f4,QU]
        have yy:ja ρ cc 0 (xs++news):=by
         refine OY (ys:=ys) ?_ f3 f2 ?_
         ·intro j x hj
          have aw:=(cm hj).1
          obtain ⟨y,k2,k3⟩:=o1.get hj
          refine ⟨o3 x (mem_of_getElem? hj),y,?_,k3⟩
          rw [<-uS,Array.append_assoc,Array.getElem?_append_left (by simp;omega)]
          simpa using k2
         ·intro j y hj
          have aw:=(cm hj).1
          rw [<-uS,Array.append_assoc,Array.getElem?_append_right (by simp;omega),Array.getElem?_append_left (by simp;omega)]
          rw [<-hj,List.getElem?_toArray]
          congr 1
          simp
          omega
        have nb:=kJ.drew w (.cells cc r.elem)
        obtain ⟨q1,q2⟩:=H.new (h₀:=h.set ii .dead) (o:=.arr r.elem (xs++news)) (r:=⟨w.heap.size,0,r.elem,P.cellsOf r.elem,cc.size⟩) nb rfl rfl (by simp) (by
          intro j
          by_cases hj:j=ii
          ·subst hj;right;rw [List.getElem?_set_self (H.lt hr)]
          ·left;rw [getElem?_set_ne (Ne.symm hj)]) ⟨rfl,rfl,cc,nb.new,rfl,yy.mono (bk.vE H.none)⟩
        refine ⟨_,_,_,gN,?_,q1,q2⟩
        refine DX ρ h.length ⟨w.heap.size,0,r.elem,P.cellsOf r.elem,cc.size⟩ rfl cJ (grownCap_le_maxLen w (n+m) c' r.elem hb5) ?_
        simp only [aAM,qU]
        rw [<-add_mul,<-add_mul]
        exact Nat.mul_le_mul_right _ (by omega)
    ·rename_i km
     clear km
     split at hi
     ·rename_i hb
      obtain ⟨rfl,rfl,nC,eW,HZ⟩:=hb
      simp at hi
      obtain ⟨rfl,rfl⟩:=hi
      cases hs with
      | slice hr ho hnc H6 wF ek=>
       rename_i o' c' r
       obtain ⟨g1,g2,c,g3,g4,g5⟩:=H.arr hr A4
       obtain rfl:o'=0:=by
        rcases ho with ho | ⟨_,q,_⟩
        ·omega
        ·omega
       have kP:=H.esz _ _ hr
       obtain ⟨b,o,c2,rfl,f1,f2,ys,f3,f4,f5⟩:=QI (by omega)
       rw [qU] at HZ
       have yD:r.esz=i.size:=by rw [kP,qU]
       have jD:fB h ii:=.inl ⟨_,xs,A4⟩
       have AX:n+m<=c':=by omega
       have hfx:n*i.size+news.length<=xs.length:=by rw [f1,<-add_mul];exact HZ
       have uW:n*i.size+ys.length<=c.size:=by
        have:=g5.le
        rw [<-f3.length];omega
       have gN:=run_append_room (P:=P) w t type r.elem i ht nW r.cZ n c' c g3 ⟨b,o,none⟩ m c2 ys f4 f5 (f3.zw f2) AX uW
       have mP:(c.toList.take (n*i.size)++ys++c.toList.drop (n*i.size+ys.length)).toArray=(setAt c.toList (n*i.size) ys).toArray:=rfl
       rw [mP] at gN
       have nG:(setAt c.toList (n*i.size) ys).toArray.size=c.size:=by simp [DT (show n*i.size+ys.length<=c.toList.length by simpa using uW)]
       have sb:=lP.row g3 (setAt c.toList (n*i.size) ys).toArray
       obtain ⟨q1,q2⟩:=H.set (o:=.arr r.elem (setAt xs (n*i.size) news)) hr jD sb ⟨rfl,g2,_,sb.here,by rw [nG,g4],g5.put f3 f2 hfx⟩
       rw [qU]
       exact ⟨_,_,_,gN,aK.slice hr (.inl (by omega)) AX H6 wF ⟨eW,ek.2⟩,q1,q2⟩
     ·cases hi
   ·cases hi
  ·cases hi
 ·cases hi
theorem aJL (H:bN P ρ h w) {t e tt:TypeId} {type:TypeId} {d x d' x' v:Value} {h':ae} (ht:P.underlying t=some (.slice e)) (hz:(P.info? e).map (·.size)=some 1) (hi:sv h d x=some (v,h')) (hd:aK ρ d d') (hx:aK ρ x x'):
  ∃w',(Builtin.copy_ #[t,tt] type #[d',x']).run P w=.ok v w'/\aK ρ v v/\bN P ρ h' w'/\Tr ρ h w ρ h' w':=by
 unfold sv at hi
 split at hi
 ·rename_i n m cs hn hm mP
  have tD:∃p c,d'=.slice p n c:=by
   unfold iY at hn
   split at hn
   ·cases hd;cases hn;exact ⟨_,_,rfl⟩
   ·cases hd;cases hn;exact ⟨_,_,rfl⟩
   ·cases hn
  have iH:∃p c,x'=.slice p m c:=by
   unfold iY at hm
   split at hm
   ·cases hx;cases hm;exact ⟨_,_,rfl⟩
   ·cases hx;cases hm;exact ⟨_,_,rfl⟩
   ·cases hm
  split at hi
  ·rename_i h0
   simp at hi
   obtain ⟨rfl,rfl⟩:=hi
   obtain ⟨p,c,rfl⟩:=tD
   obtain ⟨q,c',rfl⟩:=iH
   exact ⟨w,run_copy_none (P:=P) w t tt type e p q n c m c' ht hz h0,.int _ _,H,.refl H⟩
  ·rename_i h0
   split at hi
   ·rename_i i o e' n' c0
    split at hi
    ·rename_i e2 xs hg
     split at hi
     ·rename_i hle
      simp only [Option.some.injEq,Prod.mk.injEq] at hi
      obtain ⟨rfl,rfl⟩:=hi
      cases hd with
      | slice hr ho qj hc hb ek=>
       rename_i o' c' r
       simp [iY] at hn
       subst hn
       have iO:0<n':=by
        have:Nat.min m n'<=n':=Nat.min_le_right _ _
        omega
       have fU:o'=r.sh+o:=by
        rcases ho with ho | ⟨q1,q2,q3⟩
        ·exact ho
        ·omega
       subst fU
       obtain ⟨a1,a2,c,a3,a4,a5⟩:=H.arr hr hg
       rcases DY H mP hx with ⟨rfl,rfl⟩ | ⟨b,ob,nn,cc,rfl,hl,hlen,tA,ys,Di,Ql⟩
       ·obtain ⟨q,c',hq⟩:=iH
        cases hq
        exact absurd (Nat.zero_min n') h0
       ·rw [hm] at hl
        cases hl
        rw [Nat.mul_one] at hlen
        have QS:=Di.length
        have aw:(ys.take (Nat.min m n')).length=Nat.min m n':=by
         rw [List.length_take,<-QS,hlen];exact Nat.min_eq_left (Nat.min_le_left _ _)
        have hct:(cs.take (Nat.min m n')).length=Nat.min m n':=by
         rw [List.length_take,hlen];exact Nat.min_eq_left (Nat.min_le_left _ _)
        have tO:dw ρ (cs.take (Nat.min m n')) (ys.take (Nat.min m n')):=Di.take _
        have Cy:∀v∈cs.take (Nat.min m n'),jv v=true:=λv hv=>tA v (List.mem_of_mem_take hv)
        have gN:=run_copy_row (P:=P) w t tt type e r.cZ (r.sh+o) n' c' ⟨b,ob,none⟩ m cc c e2 (ys.take (Nat.min m n')) ht hz a3 aw
         (λj v hj=>by
          rw [getElem?_take] at hj
          split at hj
          ·rw [Addr.add_lit];exact Ql j v hj
          ·cases hj) (by have:=a5.le;rw [aw,a2];omega) (tO.zw Cy)
        rw [aw,a2,zero_add] at gN
        have heq:(c.toList.take o++ys.take (Nat.min m n')++c.toList.drop (o+Nat.min m n')).toArray=(setAt c.toList o (ys.take (Nat.min m n'))).toArray:=by simp only [setAt,aw]
        rw [heq] at gN
        have jD:fB h i:=.inl ⟨e2,xs,hg⟩
        obtain ⟨q1,q2⟩:=H.set (o:=.arr e2 (setAt xs o (cs.take (Nat.min m n')))) hr jD (lP.row a3 (setAt c.toList o (ys.take (Nat.min m n'))).toArray)
         ⟨a1,a2,_,(lP.row a3 _).here,by simp [DT (show o+(ys.take (Nat.min m n')).length<=c.toList.length by have:=a5.le;simp only [Array.length_toList];omega),a4],a5.put tO Cy (by omega)⟩
        refine ⟨_,?_,.int _ _,q1,q2⟩
        rw [a2,zero_add];exact gN
     ·cases hi
    ·cases hi
   ·cases hi
 ·cases hi
theorem aJy (w:World) (dT sT ty elem:TypeId) (g o Az Pa:Nat) (a:Addr) (Bx UT:Nat) (cur:Array Value) (t:TypeId) (cs:List Value) {k:Nat}
  (hu:P.underlying dT=some (.slice elem)) (hs:(P.info? elem).map (·.size)=some k)
  (hg:w.heap[g]?=some (.cells cur t (0,0))) (hn:cs.length=Nat.min Bx Az*k)
  (aBC:∀j v,cs[j]?=some v->w.cell? (a.add j)=some v) (uW:o+cs.length<=cur.size) (h1:∀v∈cs,v.oneCell'=true):
  (Builtin.copy_ #[dT,sT] ty #[.slice (some ⟨g,o,none⟩) Az Pa,.slice (some a) Bx UT]).run P w=
   .ok (goInt (Nat.min Bx Az:Nat)) (w.setRow g (cur.toList.take o++cs++cur.toList.drop (o+cs.length)).toArray):=by
 have hl:=run_loadCells_list (P:=P) w a cs aBC
 have ju:=run_storeCells_at P g o t cs 0 cur w hg (by simpa using uW) h1
 rw [hn] at hl
 cases hq:P.info? elem with
 | none=>simp [hq] at hs
 | some i=>
  have hi:i.size=k:=by simpa [hq] using hs
  simp [Builtin.copy_,run_underlying hu,Builtin.lenOf,Builtin.firstCells,sizeOf,typeInfo,hq,hi,hl,ju]
theorem aJx (w:World) (dT sT ty elem:TypeId) (d a:Option Addr) (Az Pa Bx UT:Nat) {k:Nat} (hu:P.underlying dT=some (.slice elem)) (hs:(P.info? elem).map (·.size)=some k) (hn:Nat.min Bx Az=0):
  (Builtin.copy_ #[dT,sT] ty #[.slice d Az Pa,.slice a Bx UT]).run P w=.ok (goInt 0) w:=by
 cases hq:P.info? elem with
 | none=>simp [hq] at hs
 | some i=>
  have hl:∀(x:Addr),(loadCells x 0).run P w=.ok #[] w:=λx=>by simpa using run_loadCells_list (P:=P) w x [] (by simp)
  cases d <;> cases a <;> simp [Builtin.copy_,run_underlying hu,Builtin.lenOf,Builtin.firstCells,sizeOf,typeInfo,hq,hn,storeCells,hl]
theorem aJM (H:bN P ρ h w) {t e tt:TypeId} {type:TypeId} {d x d' x' v:Value} {h':ae} (ht:P.underlying t=some (.slice e)) {k:Nat} (hz:(P.info? e).map (·.size)=some k) (hi:rA k h d x=some (v,h')) (hd:aK ρ d d') (hx:aK ρ x x'):
  ∃w',(Builtin.copy_ #[t,tt] type #[d',x']).run P w=.ok v w'/\aK ρ v v/\bN P ρ h' w'/\Tr ρ h w ρ h' w':=by
 unfold rA at hi
 split at hi
 ·rename_i n m cs hn hm mP
  have tD:∃p c,d'=.slice p n c:=by
   unfold iY at hn
   split at hn
   ·cases hd;cases hn;exact ⟨_,_,rfl⟩
   ·cases hd;cases hn;exact ⟨_,_,rfl⟩
   ·cases hn
  have iH:∃p c,x'=.slice p m c:=by
   unfold iY at hm
   split at hm
   ·cases hx;cases hm;exact ⟨_,_,rfl⟩
   ·cases hx;cases hm;exact ⟨_,_,rfl⟩
   ·cases hm
  split at hi
  ·rename_i h0
   simp at hi
   obtain ⟨rfl,rfl⟩:=hi
   obtain ⟨p,c,rfl⟩:=tD
   obtain ⟨q,c',rfl⟩:=iH
   exact ⟨w,aJx (P:=P) w t tt type e p q n c m c' ht hz h0,.int _ _,H,.refl H⟩
  ·rename_i h0
   split at hi
   ·rename_i i o e' n' c0
    split at hi
    ·rename_i e2 xs hg
     split at hi
     ·rename_i hle
      simp only [Option.some.injEq,Prod.mk.injEq] at hi
      obtain ⟨rfl,rfl⟩:=hi
      cases hd with
      | slice hr ho qj hc hb ek=>
       rename_i o' c' r
       simp [iY] at hn
       subst hn
       have iO:0<n':=by
        have:Nat.min m n'<=n':=Nat.min_le_right _ _
        omega
       have fU:o'=r.sh+o:=by
        rcases ho with ho | ⟨q1,q2,q3⟩
        ·exact ho
        ·omega
       subst fU
       obtain ⟨a1,a2,c,a3,a4,a5⟩:=H.arr hr hg
       rcases DY H mP hx with ⟨rfl,rfl⟩ | ⟨b,ob,nn,cc,rfl,hl,hlen,tA,ys,Di,Ql⟩
       ·obtain ⟨q,c',hq⟩:=iH
        cases hq
        exact absurd (Nat.zero_min n') h0
       ·rw [hm] at hl
        cases hl
        have hmk:Nat.min m n'*k<=m*k:=Nat.mul_le_mul_right _ (Nat.min_le_left _ _)
        have QS:=Di.length
        have aw:(ys.take (Nat.min m n'*k)).length=Nat.min m n'*k:=by
         rw [List.length_take,<-QS,hlen];exact Nat.min_eq_left hmk
        have hct:(cs.take (Nat.min m n'*k)).length=Nat.min m n'*k:=by
         rw [List.length_take,hlen];exact Nat.min_eq_left hmk
        have tO:dw ρ (cs.take (Nat.min m n'*k)) (ys.take (Nat.min m n'*k)):=Di.take _
        have Cy:∀v∈cs.take (Nat.min m n'*k),jv v=true:=λv hv=>tA v (List.mem_of_mem_take hv)
        have gN:=aJy (P:=P) w t tt type e r.cZ (r.sh+o) n' c' ⟨b,ob,none⟩ m cc c e2 (ys.take (Nat.min m n'*k)) ht hz a3 aw
         (λj v hj=>by
          rw [getElem?_take] at hj
          split at hj
          ·rw [Addr.add_lit];exact Ql j v hj
          ·cases hj) (by have:=a5.le;rw [aw,a2];omega) (tO.zw Cy)
        rw [aw,a2,zero_add] at gN
        have heq:(c.toList.take o++ys.take (Nat.min m n'*k)++c.toList.drop (o+Nat.min m n'*k)).toArray=(setAt c.toList o (ys.take (Nat.min m n'*k))).toArray:=by simp only [setAt,aw]
        rw [heq] at gN
        have jD:fB h i:=.inl ⟨e2,xs,hg⟩
        obtain ⟨q1,q2⟩:=H.set (o:=.arr e2 (setAt xs o (cs.take (Nat.min m n'*k)))) hr jD (lP.row a3 (setAt c.toList o (ys.take (Nat.min m n'*k))).toArray)
         ⟨a1,a2,_,(lP.row a3 _).here,by simp [DT (show o+(ys.take (Nat.min m n'*k)).length<=c.toList.length by have:=a5.le;simp only [Array.length_toList];omega),a4],a5.put tO Cy (by omega)⟩
        refine ⟨_,?_,.int _ _,q1,q2⟩
        rw [a2,zero_add];exact gN
     ·cases hi
    ·cases hi
   ·cases hi
 ·cases hi
end
end
section
theorem lP.obj {w:World} {g:Nat} {x:Obj} (hg:w.heap[g]?=some x) (b:Obj):lP w g b { w with heap:=w.heap.setIfInBounds g b } where
 here:=by
  have:=(Array.getElem?_eq_some_iff.1 hg).1
  simp [this]
 other:=by intro j hj;simp [Ne.symm hj]
 size:=by simp
 os:=rfl
 tape:=rfl
 output:=rfl
 drawn:=le_refl _
theorem aAh {ρ:bk} {es:List (ByteArray×Value)} {bn:List MapEntry} (h:oX ρ es bn) (k:ByteArray) {v v':Value} (hv:aK ρ v v') (born:Nat):∀i:Nat,
  (Instr.findNow .string (.string k) bn i=some none/\oX ρ (sJ k v es) (bn++[{ key:=.string k,val:=v',born }]))∨
  (∃u j,Instr.findNow .string (.string k) bn i=some (some (i+j,u))/\(∃en,bn[j]?=some en/\en.key=.string k)/\oX ρ (sJ k v es) (bn.modify j λe=>{ e with key:=.string k,val:=v' })):=by
 induction h with
 | nil=>intro i;exact .inl ⟨rfl,.cons rfl hv .nil⟩
 | cons h1 h2 h3 ih=>
  rename_i k0 v0 en es bn
  intro i
  by_cases hk:k=k0
  ·subst hk
   have hb:(k==k)=true:=(MapKept.bytes_beq k k).2 rfl
   refine .inr ⟨en.val,0,?_,⟨en,rfl,h1⟩,?_⟩
   ·simp [Instr.findNow,h1,Instr.sameNow,hb]
   ·simp only [sJ,if_true,List.modify_zero_cons]
    exact .cons rfl hv h3
  ·have hb:(k==k0)=false:=by
    rw [Bool.eq_false_iff]
    exact λe=>hk ((MapKept.bytes_beq k k0).1 e)
   rcases ih (i+1) with ⟨e1,e2⟩ | ⟨u,j,e1,e2,e3⟩
   ·refine .inl ⟨?_,?_⟩
    ·simp [Instr.findNow,h1,Instr.sameNow,hb,e1]
    ·simp only [sJ,if_neg hk,List.cons_append]
     exact .cons h1 h2 e2
   ·refine .inr ⟨u,j+1,?_,by simpa using e2,?_⟩
    ·simp [Instr.findNow,h1,Instr.sameNow,hb,e1];omega
    ·simp only [sJ,if_neg hk,List.modify_succ_cons]
     exact .cons h1 h2 e3
theorem aAi {kd:IntKind} {ρ:bk} {es:List (Int×Value)} {bn:List MapEntry} (h:oY kd ρ es bn) (k:Int) {v v':Value} (hv:aK ρ v v') (born:Nat):∀i:Nat,
  (Instr.findNow (.int kd) (.int kd k) bn i=some none/\oY kd ρ (sI k v es) (bn++[{ key:=.int kd k,val:=v',born }]))∨
  (∃u j,Instr.findNow (.int kd) (.int kd k) bn i=some (some (i+j,u))/\(∃en,bn[j]?=some en/\en.key=.int kd k)/\oY kd ρ (sI k v es) (bn.modify j λe=>{ e with key:=.int kd k,val:=v' })):=by
 induction h with
 | nil=>intro i;exact .inl ⟨rfl,.cons rfl hv .nil⟩
 | cons h1 h2 h3 ih=>
  rename_i k0 v0 en es bn
  intro i
  by_cases hk:k=k0
  ·subst hk
   have hb:(k==k)=true:=beq_self_eq_true k
   refine .inr ⟨en.val,0,?_,⟨en,rfl,h1⟩,?_⟩
   ·simp [Instr.findNow,h1,Instr.sameNow]
   ·simp only [sI,if_true,List.modify_zero_cons]
    exact .cons rfl hv h3
  ·have hb:(k==k0)=false:=by
    exact beq_false_of_ne hk
   rcases ih (i+1) with ⟨e1,e2⟩ | ⟨u,j,e1,e2,e3⟩
   ·refine .inl ⟨?_,?_⟩
    ·simp [Instr.findNow,h1,Instr.sameNow,hb,e1]
    ·simp only [sI,if_neg hk,List.cons_append]
     exact .cons h1 h2 e2
   ·refine .inr ⟨u,j+1,?_,by simpa using e2,?_⟩
    ·simp [Instr.findNow,h1,Instr.sameNow,hb,e1];omega
    ·simp only [sI,if_neg hk,List.modify_succ_cons]
     exact .cons h1 h2 e3
section
variable {P : Program} {w : World} {ρ : bk} {h : ae}
theorem aJZ (H:bN P ρ h w) (t:TypeId):∃w' aN v',(Instr.makeMap t none).run P w=.ok v' w'/\aK aN (.map (some h.length)) v'/\bN P aN (h++[.smap []]) w'/\Tr ρ h w aN (h++[.smap []]) w':=by
 have nb:=kJ.alloc w (.map #[] 0)
 obtain ⟨q1,q2⟩:=H.new (h₀:=h) (o:=.smap []) (r:=⟨w.heap.size,0,0,P.cellsOf 0,0⟩) nb rfl rfl rfl (λ_=>.inl rfl) ⟨#[],0,nb.new,rfl,λj k v hj=>by simp at hj⟩
 refine ⟨_,_,.map (some w.heap.size),?_,aK.map (Ap _ _ _),q1,q2⟩
 simp [Instr.makeMap]
theorem aJ1 (H:bN P ρ h w) (t:TypeId) (kd:IntKind):∃w' aN v',(Instr.makeMap t none).run P w=.ok v' w'/\aK aN (.map (some h.length)) v'/\bN P aN (h++[.mT kd []]) w'/\Tr ρ h w aN (h++[.mT kd []]) w':=by
 have nb:=kJ.alloc w (.map #[] 0)
 obtain ⟨q1,q2⟩:=H.new (h₀:=h) (o:=.mT kd []) (r:=⟨w.heap.size,0,0,P.cellsOf 0,0⟩) nb rfl rfl rfl (λ_=>.inl rfl) ⟨#[],0,nb.new,rfl,λj k v hj=>by simp at hj⟩
 refine ⟨_,_,.map (some w.heap.size),?_,aK.map (Ap _ _ _),q1,q2⟩
 simp [Instr.makeMap]
theorem xc {g:Nat} {bn:Array MapEntry} {clock:Nat} (hg:w.heap[g]?=some (.map bn clock)) (o:Obj):(setObj g o).run P w=.ok () { w with heap:=w.heap.setIfInBounds g o }:=by
 simp [setObj,Sem.run,hg]
theorem anz (H:bN P ρ h w) {t kt et:TypeId} {m m' k k' v v':Value} {h':ae} (ht:P.underlying t=some (.map kt et)) (hk:isString P kt=true)
  (hi:Q0 h m k v=some h') (hm:aK ρ m m') (qh:aK ρ k k') (hv:aK ρ v v'):∃w',(Instr.mapUpdate t m' k' v').run P w=.ok () w'/\bN P ρ h' w'/\Tr ρ h w ρ h' w':=by
 unfold Q0 at hi
 split at hi
 ·rename_i i key
  rw [qh.vO]
  cases hm with
  | map hr=>
   rename_i r
   split at hi
   ·rename_i es he
    simp at hi;subst hi
    obtain ⟨bn,clock,hb,yC⟩:=H.bn hr he
    have mQ:=afM hk
    have jD:fB h i:=.inr (.inl ⟨es,he⟩)
    have mk:∀(qe:Array MapEntry) (rT:Nat),oX ρ (sJ key v es) qe.toList->bN P ρ (h.set i (.smap (sJ key v es))) { w with heap:=w.heap.setIfInBounds r.cZ (.map qe rT) }/\
      Tr ρ h w ρ (h.set i (.smap (sJ key v es))) { w with heap:=w.heap.setIfInBounds r.cZ (.map qe rT) }:=by
     intro qe rT qg
     have sb:=lP.obj hb (.map qe rT)
     have:=qg.to
     exact H.set (o:=.smap (sJ key v es)) hr jD sb ⟨qe,rT,sb.here,by simpa using this.1,by simpa using this.2⟩
    rcases aAh yC key hv clock 0 with ⟨e1,e2⟩ | ⟨u,j,e1,⟨en,e2,tg⟩,e3⟩
    ·obtain ⟨q1,q2⟩:=mk (bn.push { key:=.string key,val:=v',born:=clock }) (clock+1) (by simpa using e2)
     refine ⟨_,?_,q1,q2⟩
     simp [Instr.mapUpdate,run_underlying ht,run_getObj_map hb,run_checkKey _ mQ,run_findKey mQ key _ e1,xc hb]
    ·obtain ⟨q1,q2⟩:=mk (bn.modify j λe=>{ e with key:=.string key,val:=v' }) clock (by simpa using e3)
     refine ⟨_,?_,q1,q2⟩
     have dE:bn[j]?=some en:=by simpa using e2
     have QF:Instr.sameBits 10000 (.string key) (.string key)=true:=by
      simp [Instr.sameBits,(MapKept.bytes_beq key key).2 rfl]
     have C1:(Instr.keyThatStays (((bn[j]?).map (·.key)).getD (.string key)) (.string key)).run P w=.ok (.string key) w:=by
      rw [dE]
      simp [Instr.keyThatStays,tg,QF]
     simp only [Instr.mapUpdate,Sem.run_bind,run_underlying ht,Result.andThen_ok,run_getObj_map hb,run_checkKey _ mQ,run_findKey mQ key _ e1]
     simp only [zero_add,C1,Result.andThen_ok,xc hb]
   ·cases hi
 ·cases hi
theorem anB (H:bN P ρ h w) {t kt et:TypeId} {kd:IntKind} {m m' k k' v v':Value} {h':ae} (ht:P.underlying t=some (.map kt et)) (hk:ze P kt=some kd)
  (hi:Q2 kd h m k v=some h') (hm:aK ρ m m') (qh:aK ρ k k') (hv:aK ρ v v'):∃w',(Instr.mapUpdate t m' k' v').run P w=.ok () w'/\bN P ρ h' w'/\Tr ρ h w ρ h' w':=by
 unfold Q2 at hi
 split at hi
 ·rename_i i Bc key
  rw [qh.kT]
  cases hm with
  | map hr=>
   rename_i r
   split at hi
   ·rename_i nY es he
    split at hi
    ·rename_i px
     obtain ⟨rfl,rfl⟩:=px
     simp at hi;subst hi
     obtain ⟨bn,clock,hb,yC⟩:=H.adK hr he
     have mQ:=afL hk
     have jD:fB h i:=.inr (.inr (.inr (.inl ⟨_,es,he⟩)))
     have mk:∀(qe:Array MapEntry) (rT:Nat),oY nY ρ (sI key v es) qe.toList->bN P ρ (h.set i (.mT nY (sI key v es))) { w with heap:=w.heap.setIfInBounds r.cZ (.map qe rT) }/\
       Tr ρ h w ρ (h.set i (.mT nY (sI key v es))) { w with heap:=w.heap.setIfInBounds r.cZ (.map qe rT) }:=by
      intro qe rT qg
      have sb:=lP.obj hb (.map qe rT)
      have:=qg.to
      exact H.set (o:=.mT nY (sI key v es)) hr jD sb ⟨qe,rT,sb.here,by simpa using this.1,by simpa using this.2⟩
     rcases aAi yC key hv clock 0 with ⟨e1,e2⟩ | ⟨u,j,e1,⟨en,e2,tg⟩,e3⟩
     ·obtain ⟨q1,q2⟩:=mk (bn.push { key:=.int nY key,val:=v',born:=clock }) (clock+1) (by simpa using e2)
      refine ⟨_,?_,q1,q2⟩
      simp [Instr.mapUpdate,run_underlying ht,run_getObj_map hb,JS _ mQ,JT mQ key _ e1,xc hb]
     ·obtain ⟨q1,q2⟩:=mk (bn.modify j λe=>{ e with key:=.int nY key,val:=v' }) clock (by simpa using e3)
      refine ⟨_,?_,q1,q2⟩
      have dE:bn[j]?=some en:=by simpa using e2
      have QF:∀kd,Instr.sameBits 10000 (.int kd key) (.int kd key)=true:=by
       intro kd
       simp [Instr.sameBits]
      have C1:(Instr.keyThatStays (((bn[j]?).map (·.key)).getD (.int nY key)) (.int nY key)).run P w=.ok (.int nY key) w:=by
       rw [dE]
       simp [Instr.keyThatStays,tg,QF]
      simp only [Instr.mapUpdate,Sem.run_bind,run_underlying ht,Result.andThen_ok,run_getObj_map hb,JS _ mQ,JT mQ key _ e1]
      simp only [zero_add,C1,Result.andThen_ok,xc hb]
    ·cases hi
   ·cases hi
 ·cases hi
theorem aJ0 (H:bN P ρ h w) (t:TypeId) (g:jc):∃w' aN v',(Instr.makeMap t none).run P w=.ok v' w'/\aK aN (.map (some h.length)) v'/\bN P aN (h++[.jQ g 0 []]) w'/\Tr ρ h w aN (h++[.jQ g 0 []]) w':=by
 have nb:=kJ.alloc w (.map #[] 0)
 obtain ⟨q1,q2⟩:=H.new (h₀:=h) (o:=.jQ g 0 []) (r:=⟨w.heap.size,0,0,P.cellsOf 0,0⟩) nb rfl rfl rfl (λ_=>.inl rfl) ⟨by simp,#[],nb.new,rfl,λj b k v hj=>by simp at hj⟩
 refine ⟨_,_,.map (some w.heap.size),?_,aK.map (Ap _ _ _),q1,q2⟩
 simp [Instr.makeMap]
theorem rO.set {g:jc} {c:Nat} {es:List (Nat×Value×Value)} {bn:Array MapEntry} (E:rO ρ g es bn) {k v v':Value} (hk:iF g k=true) (hv:aK ρ v v'):
  (rH k es=none->rO ρ g (es++[(c,k,v)]) (bn.push { key:=k,val:=v',born:=c }))/\∀j b u,rH k es=some j->es[j]?=some (b,k,u)->rO ρ g (es.modify j λe=>(e.1,k,v)) (bn.modify j λe=>{ e with key:=k,val:=v' }):=by
 constructor
 ·intro hp
  have jR:∀e∈es,e.2.1≠k:=by
   rcases JH hk es with ⟨_,h2⟩ | ⟨j,e,h1,_⟩
   ·exact h2
   ·rw [hp] at h1;cases h1
  refine ⟨by simp [E.size],?_,?_⟩
  ·rw [List.map_append,List.nodup_append]
   refine ⟨E.nodup,by simp,?_⟩
   intro a ha b hb
   obtain ⟨e,he,rfl⟩:=List.mem_map.1 ha
   simp at hb
   subst hb
   exact jR e he
  ·intro j b k1 v1 hj
   by_cases aw:j<es.length
   ·rw [getElem?_append_left aw] at hj
    obtain ⟨g1,en,g2,g3⟩:=E.get j b k1 v1 hj
    exact ⟨g1,en,by rw [Array.getElem?_push_lt (by rw [E.size];exact aw)];rw [getElem?_eq_getElem (by rw [E.size];exact aw)] at g2;exact g2,g3⟩
   ·rw [List.getElem?_append_right (by omega)] at hj
    have tI:j=es.length:=by
     have:=(cm hj).1
     simp at this
     omega
    subst tI
    simp at hj
    obtain ⟨rfl,rfl,rfl⟩:=hj
    exact ⟨hk,{ key:=k,val:=v',born:=c },by rw [<-E.size];simp,rfl,rfl,hv⟩
 ·intro j b u hp hj
  have aBa:((es.modify j λe=>(e.1,k,v)).map λe=>e.2.1)=es.map λe=>e.2.1:=by
   apply List.ext_getElem?
   intro i
   simp only [List.getElem?_map,List.getElem?_modify]
   by_cases gC:j=i
   ·subst gC;simp [hj]
   ·simp [gC]
  refine ⟨by simp [E.size],by rw [aBa];exact E.nodup,?_⟩
  intro i b1 k1 v1 hi
  rw [List.getElem?_modify] at hi
  by_cases gC:j=i
  ·subst gC
   simp [hj] at hi
   obtain ⟨rfl,rfl,rfl⟩:=hi
   obtain ⟨g1,en,g2,g3,g4,_⟩:=E.get j b k u hj
   refine ⟨hk,{ en with key:=k,val:=v' },?_,rfl,g4,hv⟩
   rw [Array.getElem?_modify]
   simp [g2]
  ·simp [gC] at hi
   obtain ⟨g1,en,g2,g3⟩:=E.get i b1 k1 v1 hi
   refine ⟨g1,en,?_,g3⟩
   rw [Array.getElem?_modify]
   simp [gC,g2]
theorem anA (H:bN P ρ h w) {t:TypeId} {g:jc} {m m' k k' v v':Value} {h':ae} (hg:qS P t=some g)
  (hi:Q1 g h m k v=some h') (hm:aK ρ m m') (qh:aK ρ k k') (hv:aK ρ v v'):∃w',(Instr.mapUpdate t m' k' v').run P w=.ok () w'/\bN P ρ h' w'/\Tr ρ h w ρ h' w':=by
 obtain ⟨kt,et,ht,L⟩:=HQ hg
 unfold Q1 at hi
 split at hi
 ·rename_i i
  cases hm with
  | map hr=>
   rename_i r
   split at hi
   ·rename_i g' c es he
    split at hi
    ·rename_i px
     obtain ⟨rfl,hk,_⟩:=px
     simp at hi;subst hi
     rw [qh.key hk]
     obtain ⟨bn,hb,E⟩:=H.Cp hr he
     have jD:fB h i:=.inr (.inr (.inr (.inr (.inl ⟨_,_,es,he⟩))))
     obtain ⟨S1,S2⟩:=E.set (c:=c) hk hv
     rcases UL (w:=w) L E hk with ⟨⟨e1,_⟩,e2⟩ | ⟨j,b,u,en,e1,e2,e3,e4,e5,e6,e7⟩
     ·have E':=S1 e1
      have sb:=lP.obj hb (.map (bn.push { key:=k,val:=v',born:=c }) (c+1))
      have nF:zG c k v es=es++[(c,k,v)]:=by simp [zG,e1]
      have PY:xZ c k es=c+1:=by simp [xZ,e1]
      obtain ⟨q1,q2⟩:=H.set (o:=.jQ g' (xZ c k es) (zG c k v es)) hr jD sb (by rw [nF,PY];exact ⟨E'.nodup,_,sb.here,E'.size,E'.get⟩)
      refine ⟨_,?_,q1,q2⟩
      simp [Instr.mapUpdate,run_underlying ht,run_getObj_map hb,L.check w _ k hk,e2,xc hb]
     ·have E':=S2 j b u e1 e2
      have sb:=lP.obj hb (.map (bn.modify j λe=>{ e with key:=k,val:=v' }) c)
      have nF:zG c k v es=es.modify j λe=>(e.1,k,v):=by simp [zG,e1]
      have PY:xZ c k es=c:=by simp [xZ,e1]
      obtain ⟨q1,q2⟩:=H.set (o:=.jQ g' (xZ c k es) (zG c k v es)) hr jD sb (by rw [nF,PY];exact ⟨E'.nodup,_,sb.here,E'.size,E'.get⟩)
      refine ⟨_,?_,q1,q2⟩
      have C1:(Instr.keyThatStays (((bn[j]?).map (·.key)).getD k) k).run P w=.ok k w:=by
       rw [e3]
       simp [e4,L.stays w k hk]
      simp only [Instr.mapUpdate,Sem.run_bind,run_underlying ht,Result.andThen_ok,run_getObj_map hb,L.check w _ k hk,e7]
      simp only [C1,Result.andThen_ok,xc hb]
    ·cases hi
   ·cases hi
 ·cases hi
theorem rO.era {g:jc} {es:List (Nat×Value×Value)} {bn:Array MapEntry} (E:rO ρ g es bn) {j:Nat} (hj:j<es.length):rO ρ g (es.eraseIdx j) (bn.eraseIdxIfInBounds j):=by
 have aw:j<bn.size:=by rw [E.size];exact hj
 have he:bn.eraseIdxIfInBounds j=bn.eraseIdx j aw:=by simp [Array.eraseIdxIfInBounds,aw]
 rw [he]
 refine ⟨by rw [Array.size_eraseIdx,List.length_eraseIdx,if_pos hj,E.size],?_,?_⟩
 ·refine List.Nodup.sublist ?_ E.nodup
  exact (List.eraseIdx_sublist _ _).map _
 ·intro i b k v hi
  rw [List.getElem?_eraseIdx] at hi
  split at hi
  ·rename_i gC
   obtain ⟨g1,en,g2,g3⟩:=E.get i b k v hi
   exact ⟨g1,en,by rw [Array.getElem?_eraseIdx,if_pos gC];exact g2,g3⟩
  ·rename_i gC
   obtain ⟨g1,en,g2,g3⟩:=E.get (i+1) b k v hi
   exact ⟨g1,en,by rw [Array.getElem?_eraseIdx,if_neg gC];exact g2,g3⟩
theorem aJN (H:bN P ρ h w) {t ty:TypeId} {ts:Array TypeId} {g:jc} {m m' k k':Value} {h':ae} (hts:ts[0]?=some t) (hg:qS P t=some g)
  (hi:QX g h m k=some h') (hm:aK ρ m m') (qh:aK ρ k k'):∃w',(Builtin.delete_ ts ty #[m',k']).run P w=.ok (.tuple #[]) w'/\bN P ρ h' w'/\Tr ρ h w ρ h' w':=by
 obtain ⟨kt,et,ht,L⟩:=HQ hg
 unfold QX at hi
 split at hi
 ·rename_i i
  cases hm with
  | map hr=>
   rename_i r
   split at hi
   ·rename_i g' c es he
    split at hi
    ·rename_i px
     obtain ⟨rfl,hk⟩:=px
     simp at hi;subst hi
     rw [qh.key hk]
     obtain ⟨bn,hb,E⟩:=H.Cp hr he
     have jD:fB h i:=.inr (.inr (.inr (.inr (.inl ⟨_,_,es,he⟩))))
     rcases UL (w:=w) L E hk with ⟨⟨e1,_⟩,e2⟩ | ⟨j,b,u,en,e1,e2,e3,e4,e5,e6,e7⟩
     ·have sb:=lP.obj hb (.map bn c)
      have nF:ye k es=es:=by simp [ye,e1]
      obtain ⟨q1,q2⟩:=H.set (o:=.jQ g' c (ye k es)) hr jD sb (by rw [nF];exact ⟨E.nodup,_,sb.here,E.size,E.get⟩)
      refine ⟨_,?_,q1,q2⟩
      simp [Builtin.delete_,hts,run_underlying ht,run_getObj_map hb,L.check w _ k hk,e2,xc hb]
     ·have E':=E.era (cm e2).1
      have sb:=lP.obj hb (.map (bn.eraseIdxIfInBounds j) c)
      have nF:ye k es=es.eraseIdx j:=by simp [ye,e1]
      obtain ⟨q1,q2⟩:=H.set (o:=.jQ g' c (ye k es)) hr jD sb (by rw [nF];exact ⟨E'.nodup,_,sb.here,E'.size,E'.get⟩)
      refine ⟨_,?_,q1,q2⟩
      simp [Builtin.delete_,hts,run_underlying ht,run_getObj_map hb,L.check w _ k hk,e7,xc hb]
    ·cases hi
   ·cases hi
 ·cases hi
theorem aJ4 (H:bN P ρ h w) {t:TypeId} {g:jc} {x x' v:Value} {h':ae} (hg:qS P t=some g) (hi:Q3 h x=some (v,h')) (hx:aK ρ x x'):
  ∃w' aN v',(Instr.range t x').run P w=.ok v' w'/\aK aN v v'/\bN P aN h' w'/\Tr ρ h w aN h' w':=by
 obtain ⟨kt,et,ht,L⟩:=HQ hg
 unfold Q3 at hi
 split at hi
 ·rename_i i
  cases hx with
  | map hr=>
   rename_i r
   split at hi
   ·rename_i g' c es he
    simp at hi
    obtain ⟨rfl,rfl⟩:=hi
    obtain ⟨bn,hb,E⟩:=H.Cp hr he
    have nb:=kJ.alloc w (.mapIter (some r.cZ) c #[] c)
    have bY:i≠h.length:=by
     have:=(cm he).1
     omega
    obtain ⟨q1,q2⟩:=H.new (h₀:=h) (o:=.iter i c [] c) (r:=⟨w.heap.size,0,0,P.cellsOf 0,0⟩) nb rfl rfl rfl (λ_=>.inl rfl)
     ⟨rfl,r,by simp [bk.add,bY,hr],nb.new⟩
    refine ⟨_,_,.pointer (some ⟨w.heap.size,0,none⟩),?_,?_,q1,q2⟩
    ·simp [Instr.range,run_underlying ht,run_getObj_map hb,newObj,Sem.run,Result.andThen]
    ·exact aK.ptr (o:=0) (Ap _ _ _)
   ·cases hi
 ·cases hi
theorem kI.val {v v':Value} {h':ae} {s:Result Next} {w':World} {aN:bk} (e:s=.ok (.value v') w') (a:aK aN v v') (b:bN P aN h' w') (c:Tr ρ h w aN h' w'):kI P ρ h w v h' s:=
 ⟨_,_,_,_,e,.inl rfl,a,b,c⟩
theorem kI.skip {h':ae} {s:Result Next} {w':World} (e:s=.ok .skip w') (b:bN P ρ h' w') (c:Tr ρ h w ρ h' w'):kI P ρ h w undef h' s:=
 ⟨_,_,_,_,e,.inr ⟨rfl,rfl⟩,aK.undef _,b,c⟩
theorem az3 {o:Oper} {eo:pM} {g g':Operand->Value} (hc:jW P o.op=some eo) (bc:o.op.operands.all kF=true) (H:bN P ρ h w)
  (hg:∀x,kF x=true->aK ρ (g x) (g' x)) {v:Value} {h':ae} (hi:iR eo g h=some (v,h')):kI P ρ h w v h' ((execOp g' o).run P w):=by
 cases ho:o.op with
 | store t a x=>
  rw [ho] at hc bc
  simp [Op.operands] at bc
  simp only [jW] at hc
  split at hc
  ·rename_i hk
   simp at hc;subst hc
   simp only [iR,map_eq_some_iff,Prod.mk.injEq] at hi
   obtain ⟨aQ,hi,rfl,rfl⟩:=hi
   obtain ⟨w',q1,q2,q3⟩:=aJ7 H hk hi (hg a bc.1) (hg x bc.2)
   exact kI.skip (w':=w') (by simp [execOp,ho,q1]) q2 q3
  ·cases hc
 | box e x=>
  rw [ho] at hc bc
  simp [Op.operands] at bc
  simp [jW] at hc;subst hc
  obtain ⟨w',aN,v',q1,q2,q3,q4⟩:=aJI H hi (hg x bc)
  exact kI.val (v':=v') (w':=w') (by simp [execOp,ho,q1]) q2 q3 q4
 | alloc e=>
  rw [ho] at hc
  simp only [jW,map_eq_some_iff] at hc
  obtain ⟨zs,hz,rfl⟩:=hc
  simp [iR] at hi
  obtain ⟨rfl,rfl⟩:=hi
  obtain ⟨w',aN,v',q1,q2,q3,q4⟩:=aJF H hz
  exact kI.val (v':=v') (w':=w') (by simp [execOp,ho,q1]) q2 q3 q4
 | buildSlice t n ps=>
  rw [ho] at hc bc
  simp only [jW] at hc
  simp only [Op.operands] at bc
  split at hc
  ·rename_i e ht
   split at hc
   ·rename_i zs hz
    split at hc
    ·rename_i hb
     simp at hc;subst hc
     have hq:∀q∈ps.toList,kF q.2=true:=by
      intro q hm
      rw [Array.all_eq_true'] at bc
      exact bc q.2 (by simp;exact ⟨q.1,by simpa using hm⟩)
     have hp:=Ul hg (λi=>(i*P.cellsOf e,P.cellsOf e)) ps.toList hq
     obtain ⟨w',aN,v',q1,q2,q3,q4⟩:=aJ2 H ht hz hb.1 hb.2 (qs:=ps.map λ(i,x)=>(i,g' x)) (by simpa using hp) hi
     exact kI.val (v':=v') (w':=w') (by simp [execOp,ho,q1]) q2 q3 q4
    ·cases hc
   ·cases hc
  ·cases hc
 | makeSlice t l c=>
  rw [ho] at hc bc
  simp [Op.operands] at bc
  simp only [jW] at hc
  split at hc
  ·rename_i e ht
   split at hc
   ·rename_i zs hz
    simp at hc;subst hc
    obtain ⟨w',aN,v',q1,q2,q3,q4⟩:=aJY H ht hz hi (hg l bc.1) (hg c bc.2)
    exact kI.val (v':=v') (w':=w') (by simp [execOp,ho,q1]) q2 q3 q4
   ·cases hc
  ·cases hc
 | range t x=>
  rw [ho] at hc bc
  simp [Op.operands] at bc
  simp only [jW,map_eq_some_iff] at hc
  obtain ⟨g,lF,rfl⟩:=hc
  obtain ⟨w',aN,v',q1,q2,q3,q4⟩:=aJ4 H lF hi (hg x bc)
  exact kI.val (v':=v') (w':=w') (by simp [execOp,ho,q1]) q2 q3 q4
 | next it b=>
  rw [ho] at hc
  cases b with
  | false=>simp [jW] at hc;subst hc;simp [iR] at hi
  | true=>simp [jW] at hc
 | makeMap t r=>
  rw [ho] at hc
  cases r with
  | none=>
   cases lF:qS P t with
   | some g=>
    simp only [jW,lF,Option.some.injEq] at hc
    subst hc
    simp [iR] at hi
    obtain ⟨rfl,rfl⟩:=hi
    obtain ⟨w',aN,v',q1,q2,q3,q4⟩:=aJ0 H t g
    exact kI.val (v':=v') (w':=w') (by simp [execOp,ho,q1]) q2 q3 q4
   | none=>
   have two:eo=.mkMap∨∃kd,eo=.IY kd:=by
    simp only [jW,lF] at hc
    split at hc
    ·split at hc
     ·simp at hc;exact .inr ⟨_,hc.symm⟩
     ·simp at hc;exact .inl hc.symm
    ·simp at hc;exact .inl hc.symm
   rcases two with rfl | ⟨kd,rfl⟩
   ·simp [iR] at hi
    obtain ⟨rfl,rfl⟩:=hi
    obtain ⟨w',aN,v',q1,q2,q3,q4⟩:=aJZ H t
    exact kI.val (v':=v') (w':=w') (by simp [execOp,ho,q1]) q2 q3 q4
   ·simp [iR] at hi
    obtain ⟨rfl,rfl⟩:=hi
    obtain ⟨w',aN,v',q1,q2,q3,q4⟩:=aJ1 H t kd
    exact kI.val (v':=v') (w':=w') (by simp [execOp,ho,q1]) q2 q3 q4
  | some r=>simp [jW] at hc
 | mapUpdate t m k x=>
  rw [ho] at hc bc
  simp [Op.operands] at bc
  simp only [jW] at hc
  split at hc
  ·rename_i g lF
   simp at hc;subst hc
   simp only [iR,map_eq_some_iff,Prod.mk.injEq] at hi
   obtain ⟨aQ,hi,rfl,rfl⟩:=hi
   obtain ⟨w',q1,q2,q3⟩:=anA H lF hi (hg m bc.1) (hg k bc.2.1) (hg x bc.2.2)
   exact kI.skip (w':=w') (by simp [execOp,ho,q1]) q2 q3
  split at hc
  ·rename_i kt et ht
   split at hc
   ·rename_i hk
    simp at hc;subst hc
    simp only [iR,map_eq_some_iff,Prod.mk.injEq] at hi
    obtain ⟨aQ,hi,rfl,rfl⟩:=hi
    obtain ⟨w',q1,q2,q3⟩:=anz H ht hk hi (hg m bc.1) (hg k bc.2.1) (hg x bc.2.2)
    exact kI.skip (w':=w') (by simp [execOp,ho,q1]) q2 q3
   ·simp only [map_eq_some_iff] at hc
    obtain ⟨kd,px,rfl⟩:=hc
    simp only [iR,map_eq_some_iff,Prod.mk.injEq] at hi
    obtain ⟨aQ,hi,rfl,rfl⟩:=hi
    obtain ⟨w',q1,q2,q3⟩:=anB H ht px hi (hg m bc.1) (hg k bc.2.1) (hg x bc.2.2)
    exact kI.skip (w':=w') (by simp [execOp,ho,q1]) q2 q3
  ·cases hc
 | insert t m k x=>
  rw [ho] at hc bc
  simp [Op.operands] at bc
  simp only [jW] at hc
  split at hc
  ·rename_i g lF
   simp at hc;subst hc
   simp only [iR,map_eq_some_iff,Prod.mk.injEq] at hi
   obtain ⟨aQ,hi,rfl,rfl⟩:=hi
   obtain ⟨w',q1,q2,q3⟩:=anA H lF hi (hg m bc.1) (hg k bc.2.1) (hg x bc.2.2)
   exact kI.skip (w':=w') (by simp [execOp,ho,q1]) q2 q3
  split at hc
  ·rename_i kt et ht
   split at hc
   ·rename_i hk
    simp at hc;subst hc
    simp only [iR,map_eq_some_iff,Prod.mk.injEq] at hi
    obtain ⟨aQ,hi,rfl,rfl⟩:=hi
    obtain ⟨w',q1,q2,q3⟩:=anz H ht hk hi (hg m bc.1) (hg k bc.2.1) (hg x bc.2.2)
    exact kI.skip (w':=w') (by simp [execOp,ho,q1]) q2 q3
   ·simp only [map_eq_some_iff] at hc
    obtain ⟨kd,px,rfl⟩:=hc
    simp only [iR,map_eq_some_iff,Prod.mk.injEq] at hi
    obtain ⟨aQ,hi,rfl,rfl⟩:=hi
    obtain ⟨w',q1,q2,q3⟩:=anB H ht px hi (hg m bc.1) (hg k bc.2.1) (hg x bc.2.2)
    exact kI.skip (w':=w') (by simp [execOp,ho,q1]) q2 q3
  ·cases hc
 | call c=>
  rw [ho] at hc bc
  obtain ⟨callee,args,argTypes⟩:=c
  cases callee with
  | builtin b=>
   cases b with
   | append=>
    simp only [jW] at hc
    split at hc
    ·rename_i s x t t' hx vm
     obtain rfl:args=#[s,x]:=ext' hx
     obtain rfl:argTypes=#[t,t']:=ext' vm
     simp [Op.operands,Call.operands] at bc
     split at hc
     ·rename_i hte
      subst hte
      split at hc
      ·rename_i e ht
       split at hc
       ·rename_i zs hz
        simp at hc;subst hc
        obtain ⟨w',aN,v',q1,q2,q3,q4⟩:=aJG (type:=o.type) H ht hz hi (hg s bc.1) (hg x bc.2)
        exact kI.val (v':=v') (w':=w') (by simp [execOp,ho,resolve,invoke,builtin,q1]) q2 q3 q4
       ·cases hc
      ·cases hc
     ·cases hc
    ·cases hc
   | copy=>
    simp only [jW] at hc
    split at hc
    ·rename_i d x t t' hx vm
     obtain rfl:args=#[d,x]:=ext' hx
     obtain rfl:argTypes=#[t,t']:=ext' vm
     simp [Op.operands,Call.operands] at bc
     split at hc
     ·rename_i e ht
      split at hc
      ·rename_i hz
       simp at hc;subst hc
       obtain ⟨w',q1,q2,q3,q4⟩:=aJL (tt:=t') (type:=o.type) H ht hz hi (hg d bc.1) (hg x bc.2)
       exact kI.val (v':=v) (w':=w') (by simp [execOp,ho,resolve,invoke,builtin,q1]) q2 q3 q4
      ·split at hc
       ·rename_i ii hz
        simp at hc;subst hc
        obtain ⟨w',q1,q2,q3,q4⟩:=aJM (tt:=t') (type:=o.type) H ht (k:=ii.size) (by rw [hz];rfl) hi (hg d bc.1) (hg x bc.2)
        exact kI.val (v':=v) (w':=w') (by simp [execOp,ho,resolve,invoke,builtin,q1]) q2 q3 q4
       ·cases hc
     ·cases hc
    ·cases hc
   | delete=>
    simp only [jW] at hc
    split at hc
    ·rename_i m k t hx vm
     obtain rfl:args=#[m,k]:=ext' hx
     simp [Op.operands,Call.operands] at bc
     simp only [map_eq_some_iff] at hc
     obtain ⟨g,lF,rfl⟩:=hc
     simp only [iR,map_eq_some_iff,Prod.mk.injEq] at hi
     obtain ⟨aQ,hi,rfl,rfl⟩:=hi
     obtain ⟨w',q1,q2,q3⟩:=aJN (ty:=o.type) H vm lF hi (hg m bc.1) (hg k bc.2)
     exact kI.val (v':=.tuple #[]) (w':=w') (by simp [execOp,ho,resolve,invoke,builtin,q1]) (aK.undef _) q2 q3
    ·cases hc
   | _=>simp [jW] at hc
  | _=>simp [jW] at hc
 | panic x=>rw [ho] at hc;simp [jW] at hc;subst hc;simp [iR] at hi
 | makeInterface t x=>rw [ho] at hc;simp [jW] at hc;subst hc;simp [iR] at hi
 | _=>rw [ho] at hc;simp [jW] at hc
end
end
end Go.Sim
