/-
  Part 1 of the texts behind a statement of this seat: Sim1, Sim2, Sim3, Sim4, Sim5, Sim6, Sim7, Sim8, Sim7d, Sim9, Sim9g, Sim10, Sim11, Sim12, Sim13.
-/
import Derived.WalkKit
import Derived.Laws.Append
import Derived.Laws.AppendOwn
import Derived.Laws.MakeOwn
import Derived.Laws.BytesString
import Derived.RangeFuncRecord
import Derived.Lib.Bytealg
import Derived.WalkSpells
import Derived.Laws.StructEq
import Derived.WideKeyArr
import Derived.MapKept
import Derived.Laws.CopyRow
import Derived.Laws.IdiomCopy
open Array (ext' getElem?_eq_getElem getElem?_toList)
open Bool (and_eq_true)
open List (all_eq_true getElem?_append_left getElem?_set_ne getElem?_take mem_of_getElem?)
open Nat (add_mul le_refl le_trans zero_add)
open Option (bind_eq_some_iff map_eq_some_iff)
namespace Go.Sim
section
theorem bY {p : Prop} [Decidable p] (h : ¬p) : decide p = false := decide_eq_false h
theorem dh {p : Prop} [Decidable p] (h : p) : decide p = true := decide_eq_true h
theorem cE {n m : Nat} (h : Nat.ble n m = true) : n <= m := Nat.le_of_ble_eq_true h
theorem cm {α : Type} {l : List α} {i : Nat} {a : α} (h : l[i]? = some a) : ∃ h : i < l.length, l[i] = a := List.getElem?_eq_some_iff.1 h
structure RI where
 cZ:Nat
 sh:Nat
 elem:TypeId
 esz:Nat
 size:Nat
abbrev bk:=Nat->Option RI
structure Fu where
 N:Nat
 ps:Array Tmp
 nw:Code
 body:Code
inductive jc where
 | int (k:IntKind)
 | str
 | ints (n:Nat) (k:IntKind)
 deriving DecidableEq
def nY (k:IntKind):Value->Bool
 | .int k' _=>decide (k'=k)
 | _=>false
def Rj (k:IntKind):Value->Bool
 | .int _ n=>decide (k.min<=n)&&decide (n<=k.max)
 | _=>false
def iG:jc->Value->Bool
 | .int k,v=>nY k v
 | .str,.string _=>true
 | .ints n k,.agg cs=>decide (cs.size=n)&&cs.toList.all λv=>nY k v&&Rj k v
 | _,_=>false
inductive az where
 | ro (e:TypeId) (xs:List Value)
 | arr (e:TypeId) (xs:List Value)
 | smap (es:List (ByteArray×Value))
 | mU (kd:IntKind) (es:List (Int×Value))
 | jQ (g:jc) (clock:Nat) (es:List (Nat×Value×Value))
 | iter (m J1:Nat) (seen:List Nat) (last:Nat)
 | loop (c:Fu) (ls:List Nat) (vs:List Value)
 | dead
abbrev ae:=List az
abbrev Yq:Value:=.complex .f32 0 0
def qy:List Nat->List Value->Nat->Value
 | l::ls,v::vs,j=>match Nat.beq j l with | true=>v | false=>qy ls vs j
 | _,_,_=>Yq
theorem aDi (l:Nat) (ls:List Nat) (v:Value) (vs:List Value) (j:Nat):qy (l::ls) (v::vs) j=if j=l then v else qy ls vs j:=by
 show (match Nat.beq j l with | true=>v | false=>qy ls vs j)=_
 split
 ·rename_i h;rw [if_pos (Nat.eq_of_beq_eq_true h)]
 ·rename_i h;rw [if_neg (Nat.ne_of_beq_eq_false h)]
def jx:Value->Bool
 | .agg _ | .tuple _ | .complex _ _ _=>false
 | _=>true
inductive aK (ρ:bk):Value->Value->Prop
 | bool (b:Bool):aK ρ (.bool b) (.bool b)
 | int (k:IntKind) (n:Int):aK ρ (.int k n) (.int k n)
 | string (s:ByteArray):aK ρ (.string s) (.string s)
 | tW:aK ρ (.pointer none) (.pointer none)
 | qw:aK ρ (.slice none 0 0) (.slice none 0 0)
 | tV:aK ρ (.map none) (.map none)
 | nilFunc:aK ρ .nilFunc .nilFunc
 | nilIface:aK ρ .nilIface .nilIface
 | ptr {i o:Nat} {r:RI}:ρ i=some r->aK ρ (.pointer (some ⟨i,o,none⟩)) (.pointer (some ⟨r.cZ,r.sh+o,none⟩))
 | slice {i o n m o' c':Nat} {r:RI}:ρ i=some r->(o'=r.sh+o∨(n=0/\0<o/\c'=0))->n<=c'->c'<=maxLen->o'+c'*r.esz<=r.size->(n<=m/\m<=c')->
   aK ρ (.slice (some ⟨i,o,some r.elem⟩) n m) (.slice (some ⟨r.cZ,o',none⟩) n c')
 | void (a:Addr):aK ρ (.slice none 0 1) (.slice (some a) 0 0)
 | map {i:Nat} {r:RI}:ρ i=some r->aK ρ (.map (some i)) (.map (some r.cZ))
 | func (f:FuncId) {xs ys iC mK:Array Value}:xs.size=iC.size->ys.size=mK.size->
   (∀(k:Nat) (x x':Value),xs[k]?=some x->iC[k]?=some x'->aK ρ x x')->
   (∀(k:Nat) (x x':Value),ys[k]?=some x->mK[k]?=some x'->aK ρ x x')->aK ρ (.func (.func f) xs ys) (.func (.func f) iC mK)
 | yield {i:Nat} {r:RI}:ρ i=some r->aK ρ (.func (.yield i) #[] #[]) (.func (.yield r.cZ) #[] #[])
 | agg {xs iC:Array Value}:xs.size=iC.size->(∀x∈xs.toList,jx x=true)->(∀(k:Nat) (x x':Value),xs[k]?=some x->iC[k]?=some x'->aK ρ x x')->aK ρ (.agg xs) (.agg iC)
 | any (v:Value):aK ρ (.complex .f32 0 0) v
 | tuple {xs iC:Array Value}:xs.size=iC.size->(∀(k:Nat) (x x':Value),xs[k]?=some x->iC[k]?=some x'->aK ρ x x')->aK ρ (.tuple xs) (.tuple iC)
def bk.le (ρ aN:bk):Prop:=∀i r,ρ i=some r->aN i=some r
theorem bk.le.refl (ρ:bk):ρ.le ρ:=λ_ _ h=>h
theorem bk.le.trans {a b c:bk} (h:a.le b) (k:b.le c):a.le c:=λi r e=>k i r (h i r e)
theorem aK.mono {ρ aN:bk} (h:ρ.le aN) {v v':Value} (hv:aK ρ v v'):aK aN v v':=by
 induction hv with
 | bool b=>exact .bool b
 | int k n=>exact .int k n
 | string s=>exact .string s
 | tW=>exact .tW
 | qw=>exact .qw
 | tV=>exact .tV
 | nilFunc=>exact .nilFunc
 | nilIface=>exact .nilIface
 | ptr hi=>exact .ptr (h _ _ hi)
 | slice hi a b c d ek=>exact .slice (h _ _ hi) a b c d ek
 | void a=>exact .void a
 | map hi=>exact .map (h _ _ hi)
 | func f a b _ _ Rc Re=>exact .func f a b (λk x x' e e'=>Rc k x x' e e') (λk x x' e e'=>Re k x x' e e')
 | yield hi=>exact .yield (h _ _ hi)
 | agg a b _ ih=>exact .agg a b (λk x x' e e'=>ih k x x' e e')
 | any v=>exact .any v
 | tuple a _ ih=>exact .tuple a (λk x x' e e'=>ih k x x' e e')
theorem aK.undef (ρ:bk):aK ρ undef undef:=.tuple rfl (λk x x' e e'=>by simp at e)
inductive dw (ρ:bk):List Value->List Value->Prop
 | nil:dw ρ [] []
 | cons {x y:Value} {xs ys:List Value}:aK ρ x y->dw ρ xs ys->dw ρ (x::xs) (y::ys)
theorem dw.mono {ρ aN:bk} (h:ρ.le aN) {xs ys:List Value} (hv:dw ρ xs ys):dw aN xs ys:=by
 induction hv with
 | nil=>exact .nil
 | cons a _ ih=>exact .cons (a.mono h) ih
theorem dw.length {ρ:bk} {xs ys:List Value} (hv:dw ρ xs ys):xs.length=ys.length:=by
 induction hv with
 | nil=>rfl
 | cons _ _ ih=>simp [ih]
theorem dw.get {ρ:bk} {xs ys:List Value} (hv:dw ρ xs ys):∀{k:Nat} {x:Value},xs[k]?=some x->∃y,ys[k]?=some y/\aK ρ x y:=by
 induction hv with
 | nil=>intro k x h;simp at h
 | cons a _ ih=>
  intro k x h
  cases k with
  | zero=>simp at h;subst h;exact ⟨_,by simp,a⟩
  | succ k=>simp at h;obtain ⟨y,hy,hr⟩:=ih h;exact ⟨y,by simpa using hy,hr⟩
theorem dw.append {ρ:bk} {xs ys iC mK:List Value} (h:dw ρ xs ys) (h':dw ρ iC mK):dw ρ (xs++iC) (ys++mK):=by
 induction h with
 | nil=>exact h'
 | cons a _ ih=>exact .cons a ih
theorem dw.RU {ρ:bk}:∀{xs ys:List Value},xs.length=ys.length->(∀(k:Nat) (x y:Value),xs[k]?=some x->ys[k]?=some y->aK ρ x y)->dw ρ xs ys
 | [],[],_,_=>.nil
 | x::xs,y::ys,hl,h=>.cons (h 0 x y rfl rfl) (dw.RU (by simpa using hl) λk a b ha hb=>h (k+1) a b (by simpa using ha) (by simpa using hb))
theorem dw.take {ρ:bk} {xs ys:List Value} (h:dw ρ xs ys):∀n,dw ρ (xs.take n) (ys.take n):=by
 induction h with
 | nil=>intro n;simp;exact .nil
 | cons a _ ih=>intro n;cases n with
  | zero=>exact .nil
  | succ n=>exact .cons a (ih n)
theorem dw.drop {ρ:bk} {xs ys:List Value} (h:dw ρ xs ys):∀n,dw ρ (xs.drop n) (ys.drop n):=by
 induction h with
 | nil=>intro n;simp;exact .nil
 | cons a b ih=>intro n;cases n with
  | zero=>exact .cons a b
  | succ n=>exact ih n
theorem dw.zL {ρ:bk} {xs iC:Array Value} (hs:xs.size=iC.size) (h:∀(k:Nat) (x x':Value),xs[k]?=some x->iC[k]?=some x'->aK ρ x x'):dw ρ xs.toList iC.toList:=
 dw.RU (by simpa using hs) λk x y hx hy=>h k x y (by simpa using hx) (by simpa using hy)
theorem dw.ofList {ρ:bk} {xs iC:List Value} (h:dw ρ xs iC):∀(k:Nat) (x x':Value),xs.toArray[k]?=some x->iC.toArray[k]?=some x'->aK ρ x x':=by
 intro k x x' hx dN
 obtain ⟨y,hy,hr⟩:=h.get (k:=k) (x:=x) (by simpa using hx)
 simp at dN
 rw [hy] at dN
 cases dN
 exact hr
theorem aK.FC {ρ:bk} {xs iC:List Value} (h:dw ρ xs iC) (h1:∀x∈xs,jx x=true):aK ρ (.agg xs.toArray) (.agg iC.toArray):=.agg (by simpa using h.length) (by simpa using h1) h.ofList
theorem aK.vQ {ρ:bk} {xs iC:List Value} (h:dw ρ xs iC):aK ρ (.tuple xs.toArray) (.tuple iC.toArray):=.tuple (by simpa using h.length) h.ofList
def dL (v:Value):List Value:=v.cells.toList
def fV:Value->Bool
 | .tuple _ | .complex _ _ _=>false
 | _=>true
theorem aK.cells {ρ:bk} {v v':Value} (h:aK ρ v v') (hn:fV v=true):dw ρ (dL v) (dL v'):=by
 cases h with
 | any _=>simp [fV] at hn
 | agg hs _ h=>exact dw.zL hs h
 | bool b=>exact .cons (.bool b) .nil
 | int k n=>exact .cons (.int k n) .nil
 | string s=>exact .cons (.string s) .nil
 | tW=>exact .cons .tW .nil
 | qw=>exact .cons .qw .nil
 | tV=>exact .cons .tV .nil
 | nilFunc=>exact .cons .nilFunc .nil
 | nilIface=>exact .cons .nilIface .nil
 | ptr hi=>exact .cons (.ptr hi) .nil
 | slice hi a b c d ek=>exact .cons (.slice hi a b c d ek) .nil
 | void a=>exact .cons (.void a) .nil
 | map hi=>exact .cons (.map hi) .nil
 | func f a b c d=>exact .cons (.func f a b c d) .nil
 | yield hi=>exact .cons (.yield hi) .nil
 | tuple a b=>simp [fV] at hn
def jI (h:ae) (i:Nat):Prop:=∃o,h[i]?=some o/\o≠ .dead
def fC (h:ae) (i:Nat):Prop:=(∃e xs,h[i]?=some (.arr e xs))∨(∃es,h[i]?=some (.smap es))∨(∃c ls vs,h[i]?=some (.loop c ls vs))∨(∃kd es,h[i]?=some (.mU kd es))∨(∃g c es,h[i]?=some (.jQ g c es))∨(∃m s n l,h[i]?=some (.iter m s n l))
theorem fC.live {h:ae} {i:Nat} (hm:fC h i):jI h i:=by
 rcases hm with ⟨e,xs,hm⟩ | ⟨es,hm⟩ | ⟨c,ls,vs,hm⟩ | ⟨kd,es,hm⟩ | ⟨g,c,es,hm⟩ | ⟨m,s,n,l,hm⟩
 ·exact ⟨_,hm,by simp⟩
 ·exact ⟨_,hm,by simp⟩
 ·exact ⟨_,hm,by simp⟩
 ·exact ⟨_,hm,by simp⟩
 ·exact ⟨_,hm,by simp⟩
 ·exact ⟨_,hm,by simp⟩
def ja (ρ:bk) (c:Array Value) (sh:Nat) (xs:List Value):Prop:=∀(j:Nat) (x:Value),xs[j]?=some x->jx x=true/\∃y,c[sh+j]?=some y/\aK ρ x y
theorem aK.zx {ρ:bk} {v v':Value} (h:aK ρ v v') (hc:jx v=true):v'.oneCell'=true:=by
 cases h <;> first | rfl | simp [jx] at hc
theorem dw.zx {ρ:bk} {xs ys:List Value} (h:dw ρ xs ys) (h1:∀x∈xs,jx x=true):∀y∈ys,y.oneCell'=true:=by
 induction h with
 | nil=>intro y hy;simp at hy
 | cons a _ ih=>
  intro y hy
  rcases List.mem_cons.1 hy with rfl | hy
  ·exact a.zx (h1 _ (by simp))
  ·exact ih (λx hx=>h1 x (by simp [hx])) y hy
theorem aK.Hl {ρ:bk} {v v':Value} (h:aK ρ v v') (ht:fV v=true):∀x∈dL v,jx x=true:=by
 cases h with
 | agg hs h1 h=>exact h1
 | tuple _ _=>simp [fV] at ht
 | any _=>simp [fV] at ht
 | _=>intro x hx;simp [dL,Value.cells] at hx;subst hx;rfl
theorem ja.of {ρ:bk} {xs:List Value} {c:Array Value} (h:dw ρ xs c.toList) (h1:∀x∈xs,jx x=true):ja ρ c 0 xs:=by
 intro j x hj
 obtain ⟨y,hy,hr⟩:=h.get hj
 exact ⟨h1 x (mem_of_getElem? hj),y,by simpa using hy,hr⟩
def oO (ρ:bk) (w:World) (r:RI):az->Prop
 | .ro e xs=>r.elem=e/\∃c t fr,w.heap[r.cZ]?=some (.cells c t fr)/\c.size=r.size/\ja ρ c r.sh xs
 | .arr e xs=>r.elem=e/\r.sh=0/\∃c,w.heap[r.cZ]?=some (.cells c e (0,0))/\c.size=r.size/\ja ρ c 0 xs
 | .smap es=>∃bn clock,w.heap[r.cZ]?=some (.map bn clock)/\bn.size=es.length/\
   ∀(j:Nat) (k:ByteArray) (v:Value),es[j]?=some (k,v)->∃en,bn[j]?=some en/\en.key=.string k/\aK ρ v en.val
 | .mU kd es=>∃bn clock,w.heap[r.cZ]?=some (.map bn clock)/\bn.size=es.length/\
   ∀(j:Nat) (k:Int) (v:Value),es[j]?=some (k,v)->∃en,bn[j]?=some en/\en.key=.int kd k/\aK ρ v en.val
 | .jQ g clock es=>(es.map λe=>e.2.1).Nodup/\∃bn,w.heap[r.cZ]?=some (.map bn clock)/\bn.size=es.length/\
   ∀(j b:Nat) (k v:Value),es[j]?=some (b,k,v)->iG g k=true/\∃en,bn[j]?=some en/\en.key=k/\en.born=b/\aK ρ v en.val
 | .iter m J1 seen last=>r.sh=0/\∃rm,ρ m=some rm/\w.heap[r.cZ]?=some (.mapIter (some rm.cZ) J1 seen.toArray last)
 | .loop c ls vs=>∃rec,w.heap[r.cZ]?=some (.loop rec)/\rec.state=.ready/\rec.pending=none/\rec.assign=c.nw/\rec.body=c.body/\rec.params=c.ps/\rec.tmps.size=c.N/\
   ∀t,aK ρ (qy ls vs t) (rec.tmps.getD t Go.undef)
 | .dead=>True
structure bN (P:Program) (ρ:bk) (h:ae) (w:World):Prop where
 obj:∀i r,ρ i=some r->∃o,h[i]?=some o/\oO ρ w r o
 inj:∀i j r s,ρ i=some r->ρ j=some s->r.cZ=s.cZ->fC h i->jI h j->i=j
 esz:∀i r,ρ i=some r->r.esz=P.cellsOf r.elem
theorem bN.lt {P:Program} {ρ:bk} {h:ae} {w:World} (H:bN P ρ h w) {i:Nat} {r:RI} (hi:ρ i=some r):i<h.length:=by
 obtain ⟨o,ho,_⟩:=H.obj i r hi
 exact (cm ho).1
structure Tr (ρ:bk) (h:ae) (w:World) (aN:bk) (h':ae) (w':World):Prop where
 ext:ρ.le aN
 len:h.length<=h'.length
 mo:∀i r,ρ i=some r->i<h.length
 kinds:∀i,i<h.length->fC h' i->fC h i
 fresh:∀i r,aN i=some r->ρ i=none->h.length<=i/\(w.heap.size<=r.cZ∨∃j s,ρ j=some s/\s.cZ=r.cZ/\fC h j)
 kN:w.heap.size<=w'.heap.size
 kY:∀b,b<w.heap.size->(∀j s,ρ j=some s->s.cZ=b->¬fC h j)->w'.heap[b]?=w.heap[b]?
 os:w'.os=w.os
 tape:w'.tape=w.tape
 output:w'.output=w.output
 drawn:w.drawn<=w'.drawn
theorem Tr.refl {P:Program} {ρ:bk} {h:ae} {w:World} (H:bN P ρ h w):Tr ρ h w ρ h w where
 ext:=.refl _
 len:=le_refl _
 mo:=λ_ _ hi=>H.lt hi
 kinds:=λ_ _ h=>h
 fresh:=λi r h1 h2=>by rw [h1] at h2;cases h2
 kN:=le_refl _
 kY:=λ_ _ _=>rfl
 os:=rfl
 tape:=rfl
 output:=rfl
 drawn:=le_refl _
theorem Tr.trans {Ab VN aoj:bk} {gR afw Iy:ae} {sN Kp an4:World} (a:Tr Ab gR sN VN afw Kp) (b:Tr VN afw Kp aoj Iy an4):Tr Ab gR sN aoj Iy an4 where
 ext:=a.ext.trans b.ext
 len:=le_trans a.len b.len
 mo:=a.mo
 kinds:=λi hi hm=>a.kinds i hi (b.kinds i (Nat.lt_of_lt_of_le hi a.len) hm)
 fresh:=by
  intro i r h3 h1
  cases h2:VN i with
  | some r2=>
   have:=b.ext i r2 h2
   rw [h3] at this
   cases this
   exact a.fresh i r h2 h1
  | none=>
   obtain ⟨hl,hb⟩:=b.fresh i r h3 h2
   refine ⟨le_trans a.len hl,?_⟩
   rcases hb with hb | ⟨j,s,hj,hs,hm⟩
   ·exact .inl (le_trans a.kN hb)
   ·cases uS:Ab j with
    | some s'=>
     have:=a.ext j s' uS
     rw [hj] at this
     cases this
     exact .inr ⟨j,s,uS,hs,a.kinds j (a.mo j s uS) hm⟩
    | none=>
     obtain ⟨_,h⟩:=a.fresh j s hj uS
     rw [hs] at h
     rcases h with h | ⟨j',s',q1,q2,q3⟩
     ·exact .inl h
     ·exact .inr ⟨j',s',q1,q2,q3⟩
 kN:=le_trans a.kN b.kN
 kY:=by
  intro k hk jR
  rw [b.kY k (Nat.lt_of_lt_of_le hk a.kN) ?_,a.kY k hk jR]
  intro j s hj hs hm
  cases uS:Ab j with
  | some s'=>
   have:=a.ext j s' uS
   rw [hj] at this
   cases this
   exact jR j s uS hs (a.kinds j (a.mo j s uS) hm)
  | none=>
   obtain ⟨_,h⟩:=a.fresh j s hj uS
   rcases h with h | ⟨j',s',q1,q2,q3⟩
   ·omega
   ·exact jR j' s' q1 (by omega) q3
 os:=b.os.trans a.os
 tape:=b.tape.trans a.tape
 output:=b.output.trans a.output
 drawn:=le_trans a.drawn b.drawn
theorem bN.drew {P:Program} {ρ:bk} {h:ae} {w:World} (H:bN P ρ h w) (n:Nat):bN P ρ h { w with drawn:=n }:=
 ⟨λi r hi=>let ⟨o,ho,hr⟩:=H.obj i r hi;⟨o,ho,by cases o <;> exact hr⟩,H.inj,H.esz⟩
theorem Tr.drew {P:Program} {ρ:bk} {h:ae} {w:World} (H:bN P ρ h w) (n:Nat) (hn:w.drawn<=n):Tr ρ h w ρ h { w with drawn:=n } where
 ext:=.refl _
 len:=le_refl _
 mo:=λ_ _ hi=>H.lt hi
 kinds:=λ_ _ h=>h
 fresh:=λi r h1 h2=>by rw [h1] at h2;cases h2
 kN:=le_refl _
 kY:=λ_ _ _=>rfl
 os:=rfl
 tape:=rfl
 output:=rfl
 drawn:=hn
def mark (D:Nat):Deferred:={ target:=.collected D,args:=#[] }
def marks (B:Nat):List Deferred->World->Prop
 | [],w=>B<=w.heap.size
 | d::ds,w=>(∃D,d=mark D/\B<=D/\w.heap[D]?=some (.deferred (some []))/\∀d'∈ds,d'≠mark D)/\marks B ds w
theorem bN.RT {P:Program} {ρ:bk} {h:ae} {w:World} (H:bN P ρ h w) {D:Nat} {x:Option (List Deferred)} (hD:w.heap[D]?=some (.deferred x)) {j:Nat} {s:RI} (hj:ρ j=some s) (hs:s.cZ=D):¬jI h j:=by
 rintro ⟨o,ho,b7⟩
 obtain ⟨o',fU,hr⟩:=H.obj j s hj
 rw [ho] at fU
 cases fU
 subst hs
 cases o with
 | ro e xs=>obtain ⟨_,c,_,fr,h2,_⟩:=hr;rw [hD] at h2;cases h2
 | arr e xs=>obtain ⟨_,_,c,h2,_⟩:=hr;rw [hD] at h2;cases h2
 | smap es=>obtain ⟨bn,clock,h1,_⟩:=hr;rw [hD] at h1;cases h1
 | mU kd es=>obtain ⟨bn,clock,h1,_⟩:=hr;rw [hD] at h1;cases h1
 | jQ g c es=>obtain ⟨_,bn,h1,_⟩:=hr;rw [hD] at h1;cases h1
 | iter m s n l=>obtain ⟨_,rm,_,h1⟩:=hr;rw [hD] at h1;cases h1
 | loop c ls vs=>obtain ⟨rec,h1,_⟩:=hr;rw [hD] at h1;cases h1
 | dead=>exact b7 rfl
theorem marks.tr {P:Program} {ρ aN:bk} {h h':ae} {w w':World} (H:bN P ρ h w) (T:Tr ρ h w aN h' w') {B:Nat}:∀{ds:List Deferred},marks B ds w->marks B ds w'
 | [],hb=>le_trans hb T.kN
 | d::ds,⟨⟨D,h1,h2,h3,h4⟩,h5⟩=>
  ⟨⟨D,h1,h2,by rw [T.kY D (Array.getElem?_eq_some_iff.1 h3).1 λj s hj hs hm=>H.RT h3 hj hs hm.live];exact h3,h4⟩,marks.tr H T h5⟩
theorem marks.lt {B:Nat} {w:World}:∀{ds:List Deferred},marks B ds w->∀d∈ds,∃D,d=mark D/\D<w.heap.size
 | [],_,d,hd=>by simp at hd
 | d::ds,⟨⟨D,h1,h2,h3,h4⟩,h5⟩,d',hd=>by
  rcases List.mem_cons.1 hd with rfl | hd
  ·exact ⟨D,h1,(Array.getElem?_eq_some_iff.1 h3).1⟩
  ·exact marks.lt h5 d' hd
theorem marks.base {B:Nat} {w:World}:∀{ds:List Deferred},marks B ds w->B<=w.heap.size
 | [],h=>h
 | _::_,h=>marks.base h.2
theorem aC0 {a b:Nat} (h:mark a=mark b):a=b:=by
 simp [mark] at h
 exact h
structure gN (P:Program) (N:Nat) (B:Nat) (ρ:bk) (f:Nat->Value) (h:ae) (a:Act) (w:World):Prop where
 size:a.tmps.size=N
 defers:marks B a.defers w
 tmp:∀t,aK ρ (f t) (a.tmps.getD t Go.undef)
 heap:bN P ρ h w
def zN (f:Nat->Value) (t:Nat) (v:Value):Nat->Value:=λj=>match Nat.beq j t with | true=>v | false=>f j
theorem uh (f:Nat->Value) (t:Nat) (v:Value):zN f t v=λj=>if j=t then v else f j:=by
 funext j
 unfold zN
 split
 ·rename_i h;rw [if_pos (Nat.eq_of_beq_eq_true h)]
 ·rename_i h;rw [if_neg (Nat.ne_of_beq_eq_false h)]
def ev (f:Nat->Value):Operand->Value
 | .tmp t=>f t
 | .const v=>v
 | .global g=>.pointer (some ⟨g,0,none⟩)
 | .func f=>.func (.func f) #[] #[]
def mN:Value->Bool
 | .bool _ | .int .. | .string _ | .nilFunc | .nilIface=>true
 | .pointer none | .map none=>true
 | .slice none 0 0=>true
 | _=>false
def kF:Operand->Bool
 | .tmp _=>true
 | .const v=>mN v
 | .global _=>false
 | .func _=>true
theorem mN.rel {ρ:bk} {v:Value} (h:mN v=true):aK ρ v v:=by
 unfold mN at h
 split at h
 ·exact .bool _
 ·exact .int _ _
 ·exact .string _
 ·exact .nilFunc
 ·exact .nilIface
 ·exact .tW
 ·exact .tV
 ·exact .qw
 ·simp at h
theorem gN.ev {P:Program} {N B:Nat} {ρ:bk} {f:Nat->Value} {h:ae} {a:Act} {w:World} (R:gN P N B ρ f h a w) {x:Operand} (hx:kF x=true):
  aK ρ (ev f x) (a.eval x):=by
 cases x with
 | tmp t=>exact R.tmp t
 | const v=>exact mN.rel hx
 | global g=>simp [kF] at hx
 | func g=>exact .func g rfl rfl (λk x x' e e'=>by simp at e) (λk x x' e e'=>by simp at e)
theorem gN.put {P:Program} {N B:Nat} {ρ aN:bk} {f:Nat->Value} {h h':ae} {a:Act} {w w':World} (R:gN P N B ρ f h a w) {d:Nat} (hd:d<N) {v v':Value}
  (T:Tr ρ h w aN h' w') (hv:aK aN v v') (H:bN P aN h' w'):gN P N B aN (zN f d v) h' (a.put (some d) v') w' where
 size:=by simp [Act.put,R.size]
 defers:=marks.tr R.heap T R.defers
 tmp:=by
  intro t
  simp only [uh]
  by_cases ht:t=d
  ·subst ht
   have:t<a.tmps.size:=by rw [R.size];exact hd
   simp [Act.put,Array.getD,this]
   exact hv
  ·rw [if_neg ht]
   have:=(R.tmp t).mono T.ext
   have e:((a.put (some d) v').tmps.getD t Go.undef)=a.tmps.getD t Go.undef:=by
    simp only [Act.put,Array.getD_eq_getD_getElem?,Array.getElem?_setIfInBounds]
    rw [if_neg (by omega)]
   rw [e]
   exact this
 heap:=H
theorem gN.mono {P:Program} {N B:Nat} {ρ aN:bk} {f:Nat->Value} {h h':ae} {a:Act} {w w':World} (R:gN P N B ρ f h a w) (T:Tr ρ h w aN h' w') (H:bN P aN h' w'):
  gN P N B aN f h' a w':=⟨R.size,marks.tr R.heap T R.defers,λt=>(R.tmp t).mono T.ext,H⟩
end
section
def S (l:List UInt8):Value:=.string ⟨l.toArray⟩
def bytes (s:ByteArray):List UInt8:=s.data.toList
theorem auB (l:List UInt8):bytes ⟨l.toArray⟩=l:=by simp [bytes]
theorem RL (s:ByteArray):(⟨(bytes s).toArray⟩:ByteArray)=s:=by simp [bytes]
inductive p7 where
 | mv (x:Operand)
 | pick (c a b:Operand)
 | bin (op:BinOp) (x y:Operand)
 | HJ (neg:Bool) (x y:Operand)
 | HK (neg:Bool) (x y:Operand)
 | HI (neg:Bool) (n:Nat) (x y:Operand)
 | un (op:UnOp) (x:Operand)
 | conv (k:IntKind) (x:Operand)
 | U1 (x:Operand)
 | UH (x:Operand)
 | Rw (x:Operand)
 | Rx (x:Operand)
 | IL (n:Nat)
 | Dt (mx:Bool) (xs:List Operand)
 | Ra (x i:Operand)
 | Q8 (n esz:Nat) (agg:Bool) (x i:Operand)
 | NI (esz:Nat) (x i:Operand)
 | NH (n esz:Nat) (x i:Operand)
 | Pv (off:Nat) (x:Operand)
 | PB (agg:Bool) (off sz:Nat) (x:Operand)
 | J2 (x:Operand) (lo hi:Option Operand)
 | J3 (e:TypeId) (esz:Nat) (x:Operand) (lo hi:Option Operand)
 | RR (x:Operand)
 | fn (f:FuncId) (first captured:List Operand)
 | ext (x:Operand) (i:Nat)
 | build (zero:List Value) (parts:List (Nat×Nat×Operand))
 | Q9 (f:FuncId) (x c:Operand)
def jw (op:BinOp) (k:IntKind) (a b:Int):Option Value:=
 match op with
 | .add=>some (.int k (k.wrap (a+b)))
 | .sub=>some (.int k (k.wrap (a-b)))
 | .mul=>some (.int k (k.wrap (a*b)))
 | .quo=>if b=0 then none else some (.int k (k.wrap (a.tdiv b)))
 | .rem=>if b=0 then none else some (.int k (a.tmod b))
 | .and=>some (.int k (k.wrap (BitVec.ofInt k.bits a &&& BitVec.ofInt k.bits b).toNat))
 | .or=>some (.int k (k.wrap (BitVec.ofInt k.bits a ||| BitVec.ofInt k.bits b).toNat))
 | .xor=>some (.int k (k.wrap (BitVec.ofInt k.bits a^^^BitVec.ofInt k.bits b).toNat))
 | .andNot=>some (.int k (k.wrap (BitVec.ofInt k.bits a &&& ~~~BitVec.ofInt k.bits b).toNat))
 | .eql=>some (.bool (decide (a=b)))
 | .neq=>some (.bool (!decide (a=b)))
 | .lss=>some (.bool (decide (a<b)))
 | .leq=>some (.bool (decide (a<=b)))
 | .gtr=>some (.bool (decide (b<a)))
 | .geq=>some (.bool (decide (b<=a)))
 | _=>none
def rB (op:BinOp) (k:IntKind) (a b:Int):Option Value:=
 if b<0 then none else
 match op with
 | .shl=>some (.int k (k.wrap (a*2^(min b.toNat k.bits))))
 | .shr=>some (.int k (a.fdiv (2^(min b.toNat k.bits))))
 | _=>none
def yZ (op:BinOp) (a b:List UInt8):Option Value:=
 match op with
 | .add=>if a.length+b.length<=maxLen then some (S (a++b)) else none
 | .eql=>some (.bool (decide (a=b)))
 | .neq=>some (.bool (!decide (a=b)))
 | .lss=>some (.bool (Op.bytesLess a b))
 | .leq=>some (.bool (Op.bytesLess a b||decide (a=b)))
 | .gtr=>some (.bool (!(Op.bytesLess a b||decide (a=b))))
 | .geq=>some (.bool (!Op.bytesLess a b))
 | _=>none
def aj (op:BinOp) (x y:Value):Option Value:=
 match x,y with
 | .int k a,.int k' b=>
  match op with
  | .shl=>rB .shl k a b
  | .shr=>rB .shr k a b
  | op=>if k=k' then jw op k a b else none
 | .string s,.string t=>yZ op (bytes s) (bytes t)
 | _,_=>none
def tP (neg:Bool) (x y:Value):Option Value:=
 match x,y with
 | .bool a,.bool b=>some (.bool (if neg then !(a==b) else a==b))
 | _,_=>none
def wX:List Value->Option (List Int)
 | []=>some []
 | .int .i64 a::r=>(wX r).map (a::·)
 | _::_=>none
def A6 (neg:Bool) (n:Nat) (x y:Value):Option Value:=
 match x,y with
 | .agg xs,.agg ys=>
  match wX xs.toList,wX ys.toList with
  | some a,some b=>if a.length=n/\b.length=n then some (.bool (if neg then !decide (a=b) else decide (a=b))) else none
  | _,_=>none
 | _,_=>none
def HM (P:Program):Nat->List Field->Bool
 | _,[]=>true
 | i,f::fs=>f.name != "_" &&f.offset==i&&(match P.underlying f.type with | some (.int .i64)=>true | _=>false)&&HM P (i+1) fs
def Ka (P:Program) (t:TypeId) (fs:Array Field):Bool:=HM P 0 fs.toList&& !P.stoodInHeld t&& !P.eqGuardType P.depth t
def IE:Value->Option Bool
 | .slice none 0 0=>some true
 | .slice (some _) _ _=>some false
 | _=>none
def oG (neg:Bool) (x y:Value):Option Value:=
 match IE x,IE y with
 | some a,some b=>if a||b then some (.bool (if neg then !(a&&b) else a&&b)) else none
 | _,_=>none
def gG (op:UnOp) (x:Value):Option Value:=
 match op,x with
 | .neg,.int k n=>some (.int k (k.wrap (0-n)))
 | .not,.bool b=>some (.bool !b)
 | .xor,.int k n=>some (.int k (k.wrap (BitVec.ofInt k.bits (if k.signed then -1 else k.max)^^^BitVec.ofInt k.bits n).toNat))
 | _,_=>none
def dI (k:IntKind):Value->Option Value
 | .int _ n=>some (.int k (k.wrap n))
 | _=>none
def afz (x:Value):Option Value:=
 match x with
 | .int _ n=>some (.string (Utf8.encode n))
 | _=>none
def afA:Value->Option Value
 | .string s=>some (.string s)
 | _=>none
def wV:Value->Option Value
 | .string s=>some (.int .i64 (bytes s).length)
 | _=>none
def aT:Value->Option Value
 | .slice _ n _=>some (.int .i64 n)
 | _=>none
def max2 (mx:Bool):Value->Value->Option Value
 | .int k x,.int _ y=>some (.int k (if mx then (if y>x then y else x) else (if y<x then y else x)))
 | _,_=>none
def lI (mx:Bool):List Value->Option Value
 | .int k x::rest=>rest.foldlM (max2 mx) (.int k x)
 | _=>none
def tQ (x i:Value):Option Value:=
 match x,i with
 | .string s,.int _ i=>if 0<=i then ((bytes s)[i.toNat]?).map λb=>.int .u8 b.toNat else none
 | _,_=>none
def dS (agg:Bool) (off sz:Nat) (cs:List Value):Option Value:=
 if agg then (if off+sz<=cs.length then some (.agg ((cs.drop off).take sz).toArray) else none) else cs[off]?
def Q1 (n esz:Nat) (agg:Bool) (x i:Value):Option Value:=
 match x,i with
 | .agg cs,.int _ i=>if 0<=i/\i<n then dS agg (i.toNat*esz) esz cs.toList else none
 | _,_=>none
def aD (esz:Nat) (x i:Value):Option Value:=
 match x,i with
 | .slice (some ⟨id,o,some _⟩) n _,.int _ i=>if 0<=i/\i<n then some (.pointer (some ⟨id,o+i.toNat*esz,none⟩)) else none
 | _,_=>none
def QY (n esz:Nat) (x i:Value):Option Value:=
 match x,i with
 | .pointer (some ⟨id,o,none⟩),.int _ i=>if 0<=i/\i<n then some (.pointer (some ⟨id,o+i.toNat*esz,none⟩)) else none
 | _,_=>none
def aF (off:Nat) (x:Value):Option Value:=
 match x with
 | .pointer (some ⟨id,o,none⟩)=>some (.pointer (some ⟨id,o+off,none⟩))
 | _=>none
def yX (agg:Bool) (off sz:Nat) (x:Value):Option Value:=
 match x with
 | .agg cs=>dS agg off sz cs.toList
 | _=>none
def og:Value->Option Nat
 | .int _ i=>if 0<=i then some i.toNat else none
 | _=>none
def mE (n:Nat) (lo hi:Option Value):Option (Nat×Nat):=
 match (match lo with | none=>some 0 | some v=>og v),(match hi with | none=>some n | some v=>og v) with
 | some l,some h=>if l<=h/\h<=n then some (l,h) else none
 | _,_=>none
def yY (x:Value) (lo hi:Option Value):Option Value:=
 match x with
 | .string s=>(mE (bytes s).length lo hi).map λ(l,h)=>S (((bytes s).take h).drop l)
 | _=>none
def pc (esz:Nat) (lo:Option Value) (d c:Nat):Nat:=if esz=1 then d else match lo with | none=>c | some _=>d
@[simp] theorem aMi (lo : Option Value) (d c : Nat) : pc 1 lo d c = d := rfl
@[simp] theorem aMj (esz : Nat) (x : Value) (d c : Nat) : pc esz (some x) d c = d := by unfold pc; split <;> rfl
def fP (e:TypeId) (esz:Nat) (x:Value) (lo hi:Option Value):Option Value:=
 match x with
 | .slice none 0 0=>(mE 0 lo hi).map λ_=>.slice none 0 0
 | .slice (some ⟨id,o,some e'⟩) n c=>
  if e'=e then (mE n lo hi).map λ(l,h)=>.slice (some ⟨id,o+l*esz,some e⟩) (h-l) (pc esz lo (h-l) c) else none
 | _=>none
def eJ (x:Value):Option Value:=
 match x with
 | .pointer (some a)=>some (.pointer (some a))
 | .func f a b=>some (.func f a b)
 | _=>none
def cW (i:Nat) (x:Value):Option Value:=
 match x with
 | .tuple vs=>vs[i]?
 | _=>none
def setAt (xs:List Value) (o:Nat) (vs:List Value):List Value:=xs.take o++vs++xs.drop (o+vs.length)
def jE:List Value->List (Nat×Nat×Value)->Option (List Value)
 | xs,[]=>some xs
 | xs,(off,size,v)::rest=>
  if fV v/\(dL v).length=size/\off+size<=xs.length then jE (setAt xs off (dL v)) rest else none
def eI (zero:List Value) (parts:List (Nat×Nat×Value)):Option Value:=(jE zero parts).map λcs=>.agg cs.toArray
def bu (c a b:Value):Option Value:=
 match c with
 | .bool t=>some (if t then a else b)
 | _=>none
def afy (x c:Value):Option Value:=
 match x,c with
 | .string s,.int .u8 c=>some (.int .i64 (Lib.indexByte (bytes s) c.toNat.toUInt8))
 | _,_=>none
def kn (o:p7) (g:Operand->Value):Option Value:=
 match o with
 | .mv x=>some (g x)
 | .pick c a b=>bu (g c) (g a) (g b)
 | .bin op x y=>aj op (g x) (g y)
 | .HJ neg x y=>tP neg (g x) (g y)
 | .HI neg n x y=>A6 neg n (g x) (g y)
 | .HK neg x y=>oG neg (g x) (g y)
 | .un op x=>gG op (g x)
 | .conv k x=>dI k (g x)
 | .U1 x=>afA (g x)
 | .UH x=>afz (g x)
 | .Rw x=>wV (g x)
 | .Rx x=>aT (g x)
 | .IL n=>some (.int .i64 n)
 | .Dt mx xs=>lI mx (xs.map g)
 | .Ra x i=>tQ (g x) (g i)
 | .Q8 n esz agg x i=>Q1 n esz agg (g x) (g i)
 | .NI esz x i=>aD esz (g x) (g i)
 | .NH n esz x i=>QY n esz (g x) (g i)
 | .Pv off x=>aF off (g x)
 | .PB agg off sz x=>yX agg off sz (g x)
 | .J2 x lo hi=>yY (g x) (lo.map g) (hi.map g)
 | .J3 e esz x lo hi=>fP e esz (g x) (lo.map g) (hi.map g)
 | .RR x=>eJ (g x)
 | .fn f first captured=>some (.func (.func f) (first.map g).toArray (captured.map g).toArray)
 | .ext x i=>cW i (g x)
 | .build zero parts=>eI zero (parts.map λ(o,s,x)=>(o,s,g x))
 | .Q9 f x c=>
  match g (.func f) with
  | .func (.func f') a b=>if f'=f/\a.size=0/\b.size=0 then afy (g x) (g c) else none
  | _=>none
def oJ:TypeDesc->Bool
 | .struct _ | .array _ _=>true
 | _=>false
def As (v:Value):Bool:=mN v&&jx v
def zeroOf (P:Program) (t:TypeId):Option (List Value):=
 match P.info? t with
 | some i=>match i.zero with
  | some z=>if fV z&&(dL z).all As&&(dL z).length==i.size then some (dL z) else none
  | none=>none
 | none=>none
def placesOf (P:Program) (fs:Array Field):List (Nat×Nat):=fs.toList.map λf=>(f.offset,P.cellsOf f.type)
def jG (P:Program) (t:TypeId):Bool:=(P.info? t).isSome
def Pt (P:Program) (f:FuncId):Bool:=
 match P.funcs[f]? with
 | some fn=>fn.body.isNone&&fn.name== "internal/bytealg.IndexByteString" &&(Extern.findNext fn).isNone
 | none=>false
def jM (P:Program):Op->Option p7
 | .move x | .assign x=>some (.mv x)
 | .pick c a b=>some (.pick c a b)
 | .binOp op t x y _=>
  match op,P.underlying t with
  | .eql,some (.struct fs)=>if Ka P t fs then some (.HI false fs.size x y) else some (.bin .eql x y)
  | .neq,some (.struct fs)=>if Ka P t fs then some (.HI true fs.size x y) else some (.bin .neq x y)
  | .eql,some .bool=>some (.HJ false x y)
  | .neq,some .bool=>some (.HJ true x y)
  | .eql,some (.slice _)=>some (.HK false x y)
  | .neq,some (.slice _)=>some (.HK true x y)
  | op,_=>some (.bin op x y)
 | .unOp op _ x=>some (.un op x)
 | .convert s d x=>
  match P.underlying s,P.underlying d with
  | some (.int _),some (.int k)=>some (.conv k x)
  | some .string,some .string=>some (.U1 x)
  | some (.int _),some .string=>some (.UH x)
  | _,_=>none
 | .call { callee:=.builtin .len,args,argTypes }=>
  match args.toList,argTypes.toList with
  | [x],[t]=>
   match P.underlying t with
   | some .string=>some (.Rw x)
   | some (.slice _)=>some (.Rx x)
   | some (.array n _)=>some (.IL n)
   | _=>none
  | _,_=>none
 | .call { callee:=.builtin .min,args,argTypes:=_ }=>some (.Dt false args.toList)
 | .call { callee:=.builtin .max,args,argTypes:=_ }=>some (.Dt true args.toList)
 | .call { callee:=.value (.func f),args,argTypes:=_ }=>
  match args.toList with
  | [x,c]=>if Pt P f then some (.Q9 f x c) else none
  | _=>none
 | .index t x i=>
  match P.underlying t with
  | some .string=>some (.Ra x i)
  | some (.array n e)=>
   match P.underlying e with
   | some d=>if jG P e&&(oJ d||P.cellsOf e==1) then some (.Q8 n (P.cellsOf e) (oJ d) x i) else none
   | none=>none
  | _=>none
 | .indexAddr t x i=>
  match P.underlying t with
  | some (.slice e)=>if jG P e then some (.NI (P.cellsOf e) x i) else none
  | some (.array n e)=>if jG P e then some (.NH n (P.cellsOf e) x i) else none
  | _=>none
 | .fieldAddr t x f=>
  match P.underlying t with
  | some (.struct fs)=>
   match fs[f]? with
   | some fd=>if jG P fd.type&&P.cellsOf fd.type != 0 then some (.Pv fd.offset x) else none
   | none=>none
  | _=>none
 | .field t x f=>
  match P.underlying t with
  | some (.struct fs)=>
   match fs[f]? with
   | some fd=>
    match P.underlying fd.type with
    | some d=>if jG P fd.type&&(oJ d||P.cellsOf fd.type==1) then some (.PB (oJ d) fd.offset (P.cellsOf fd.type) x) else none
    | none=>none
   | none=>none
  | _=>none
 | .slice t x lo hi mx=>
  match P.underlying t,mx with
  | some .string,none=>some (.J2 x lo hi)
  | some (.slice e),none=>if jG P e then some (.J3 e (P.cellsOf e) x lo hi) else none
  | _,_=>none
 | .nilCheck x=>some (.RR x)
 | .makeFunc (.func f) first captured=>some (.fn f first.toList captured.toList)
 | .extract x i=>some (.ext x i)
 | .build t parts=>
  match P.underlying t,zeroOf P t with
  | some (.struct fs),some z=>
   if fs.all λf=>jG P f.type then
    match parts.toList.mapM (m:=Option) λ(i,x)=>(placesOf P fs)[i]? |>.map λ(o,s)=>(o,s,x) with
    | some ps=>some (.build z ps)
    | none=>none
   else none
  | some (.array _ e),some z=>if jG P e then some (.build z (parts.toList.map λ(i,x)=>(i*P.cellsOf e,P.cellsOf e,x))) else none
  | _,_=>none
 | _=>none
end
section
theorem aK.kT {ρ:bk} {k:IntKind} {n:Int} {v:Value} (h:aK ρ (.int k n) v):v=.int k n:=by cases h;rfl
theorem aK.Ar {ρ:bk} {b:Bool} {v:Value} (h:aK ρ (.bool b) v):v=.bool b:=by cases h;rfl
theorem aK.vP {ρ:bk} {s:ByteArray} {v:Value} (h:aK ρ (.string s) v):v=.string s:=by cases h;rfl
theorem aK.S (ρ:bk) (l:List UInt8):aK ρ (S l) (S l):=.string _
theorem toList_eq (s:ByteArray):s.toList=bytes s:=by
 obtain ⟨⟨l⟩⟩:=s
 exact ByteArray.toList_mk l
theorem auz (s t:ByteArray):(s.toList==t.toList)=decide (bytes s=bytes t):=by
 rw [toList_eq,toList_eq]
 by_cases h:bytes s=bytes t <;> simp [h]
theorem DZ (s:ByteArray):s.size=(bytes s).length:=by simp [bytes]
theorem auk (s t:ByteArray):s++t=⟨(bytes s++bytes t).toArray⟩:=by
 apply ByteArray.ext
 apply ext'
 simp [bytes]
section
variable (P : Program) (w : World)
theorem aJQ {op:BinOp} {k:IntKind} {a b:Int} {v:Value} (t:TypeId) (eO:op≠ .shl) (aBe:op≠ .shr) (h:jw op k a b=some v):
  (binOp op t (.int k a) (.int k b)).run P w=.ok v w:=by
 cases op <;> simp [jw] at h <;> simp at eO aBe <;> (first | subst h | (obtain ⟨hb,h⟩:=h;subst h)) <;>
  simp_all [binOp,Op.intArith,Op.intDiv,Op.intBits,Op.intCmp]
 ·rw [Bool.eq_iff_iff];simp
 ·rw [Bool.eq_iff_iff];simp
theorem anD {op:BinOp} {k k':IntKind} {a b:Int} {v:Value} (t:TypeId) (eO:op=.shl∨op=.shr) (h:rB op k a b=some v):
  (binOp op t (.int k a) (.int k' b)).run P w=.ok v w:=by
 unfold rB at h
 by_cases hb:b<0
 ·rw [if_pos hb] at h;cases h
 ·rw [if_neg hb] at h
  rcases eO with rfl | rfl <;> simp at h <;> subst h <;> simp [binOp,Op.shift,hb]
theorem aJ4 {op:BinOp} {s s':ByteArray} {v:Value} (t:TypeId) (h:yZ op (bytes s) (bytes s')=some v):
  (binOp op t (.string s) (.string s')).run P w=.ok v w:=by
 have e1:=auz s s'
 have hl:IntKind.i64.max=9223372036854775807:=rfl
 cases op <;> simp [yZ] at h <;> (first | subst h | (obtain ⟨hb,h⟩:=h;subst h)) <;> simp only [binOp,Op.stringOp]
 all_goals first
  | (rw [e1];simp [toList_eq];done)
  | (simp [toList_eq];done)
  | skip
 ·unfold maxLen at hb
  rw [if_neg (by rw [hl,DZ,DZ];omega)]
  rw [auk]
  rfl
theorem aJw (op:BinOp) (t:TypeId) (x y:Operand) (k k':IntKind) (a b:Int):(eqGuard op t x y (.int k a) (.int k' b)).run P w=.ok () w:=by
 unfold eqGuard
 cases op <;> simp
theorem aJy (op:BinOp) (t:TypeId) (x y:Operand) (a b:ByteArray):(eqGuard op t x y (.string a) (.string b)).run P w=.ok () w:=by
 unfold eqGuard
 cases op <;> simp
theorem aJv (op:BinOp) (t:TypeId) (x y:Operand) (a b:Bool):(eqGuard op t x y (.bool a) (.bool b)).run P w=.ok () w:=by
 unfold eqGuard
 cases op <;> simp
theorem aJx (op:BinOp) (t:TypeId) (x y:Operand) (a b:Option Addr) (n m c d:Nat):(eqGuard op t x y (.slice a n c) (.slice b m d)).run P w=.ok () w:=by
 unfold eqGuard
 cases op <;> simp
theorem UP {ρ:bk} {op:BinOp} {x y x' y' v:Value} (t:TypeId) (ox oy:Operand) (h:aj op x y=some v) (hx:aK ρ x x') (hy:aK ρ y y'):
  (do eqGuard op t ox oy x' y';binOp op t x' y':Sem Value).run P w=.ok v w/\aK ρ v v:=by
 unfold aj at h
 split at h
 ·rename_i k a k' b
  rw [hx.kT,hy.kT]
  have hv:(binOp op t (.int k a) (.int k' b)).run P w=.ok v w/\aK ρ v v:=by
   split at h
   ·refine ⟨anD P w t (.inl rfl) h,?_⟩
    unfold rB at h
    split at h <;> simp at h
    subst h;exact .int _ _
   ·refine ⟨anD P w t (.inr rfl) h,?_⟩
    unfold rB at h
    split at h <;> simp at h
    subst h;exact .int _ _
   ·rename_i h1 h2
    split at h
    ·rename_i hk
     subst hk
     refine ⟨aJQ P w t h1 h2 h,?_⟩
     cases op <;> simp [jw] at h <;> (first | subst h | (obtain ⟨_,h⟩:=h;subst h)) <;> first | exact .int _ _ | exact .bool _
    ·cases h
  simp only [Sem.run_bind,aJw,Result.andThen_ok]
  exact hv
 ·rename_i s s'
  rw [hx.vP,hy.vP]
  simp only [Sem.run_bind,aJy,Result.andThen_ok]
  refine ⟨aJ4 P w t h,?_⟩
  cases op <;> simp [yZ] at h <;> (first | subst h | (obtain ⟨_,h⟩:=h;subst h)) <;> first | exact .string _ | exact .bool _
 ·cases h
theorem anv {ρ:bk} {neg:Bool} {op:BinOp} {x y x' y' v:Value} (t:TypeId) (ox oy:Operand) (ht:P.underlying t=some .bool) (eO:op=if neg then .neq else .eql)
  (h:tP neg x y=some v) (hx:aK ρ x x') (hy:aK ρ y y'):
  (do eqGuard op t ox oy x' y';binOp op t x' y':Sem Value).run P w=.ok v w/\aK ρ v v:=by
 unfold tP at h
 split at h
 ·rename_i a b
  rw [hx.Ar,hy.Ar]
  simp only [Sem.run_bind,aJv,Result.andThen_ok]
  simp at h
  subst h
  refine ⟨?_,.bool _⟩
  cases neg <;> simp at eO <;> subst eO
  ·exact run_eql_bool w t a b ht
  ·exact run_neq_bool w t a b ht
 ·cases h
theorem afI:∀{xs:List Value} {a:List Int},wX xs=some a->xs=a.map λi=>.int .i64 i
 | [],a,h=>by simp [wX] at h;subst h;rfl
 | x::r,a,h=>by
  unfold wX at h
  split at h
  ·rename_i e;cases e
  ·rename_i i r' e
   cases e
   simp only [map_eq_some_iff] at h
   obtain ⟨b,hb,rfl⟩:=h
   rw [afI hb];rfl
  ·cases h
theorem ans (a b:List Int) (d:Nat):∀(fs:List Field) (i:Nat),HM P i fs=true->i+fs.length=a.length->i+fs.length=b.length->
  (Op.eqFields (d+1) (a.map λi=>Value.int .i64 i).toArray (b.map λi=>Value.int .i64 i).toArray fs).run P w=.ok (decide (a.drop i=b.drop i)) w
 | [],i,_,h1,h2=>by
  simp only [List.length_nil,Nat.add_zero] at h1 h2
  have:decide (a.drop i=b.drop i)=true:=by
   rw [decide_eq_true_eq,List.drop_of_length_le (by omega),List.drop_of_length_le (by omega)]
  rw [this]
  simp [Op.eqFields]
 | f::fs,i,hf,h1,h2=>by
  rw [List.length_cons] at h1 h2
  simp only [HM,and_eq_true,bne_iff_ne,ne_eq,beq_iff_eq] at hf
  obtain ⟨⟨⟨n1,n2⟩,n3⟩,n4⟩:=hf
  have hu:P.underlying f.type=some (.int .i64):=by
   revert n3
   split
   ·rename_i h;intro _;exact h
   ·intro h;cases h
  have ih:=ans a b d fs (i+1) n4 (by omega) (by omega)
  have ha:i<a.length:=by omega
  have hb:i<b.length:=by omega
  have ag:(isAgg f.type).run P w=.ok false w:=by simp [isAgg,run_underlying hu]
  have pa:∀c:List Int,(hc:i<c.length)->(part f.type (c.map λi=>Value.int .i64 i).toArray f.offset).run P w=.ok (.int .i64 c[i]) w:=by
   intro c hc
   unfold part
   simp only [Sem.run_bind,ag,Result.andThen_ok,Bool.false_eq_true,if_false,n2]
   have:(c.map λi=>Value.int .i64 i).toArray[i]?=some (.int .i64 c[i]):=by simp [hc]
   rw [this]
   simp
  have eqi:(Op.equalIn (d+1) f.type (.int .i64 a[i]) (.int .i64 b[i])).run P w=.ok (a[i]==b[i]) w:=by simp [Op.equalIn,run_underlying hu]
  unfold Op.eqFields
  rw [if_pos n1]
  simp only [Sem.run_bind,pa a ha,pa b hb,Result.andThen_ok,eqi]
  rw [List.drop_eq_getElem_cons ha,List.drop_eq_getElem_cons hb]
  by_cases c:a[i]=b[i]
  ·rw [c]
   simp only [beq_self_eq_true,Bool.not_true,Bool.false_eq_true,if_false,ih,List.cons.injEq,true_and]
  ·have e1:(a[i]==b[i])=false:=by simpa using c
   have e2:decide (a[i]::a.drop (i+1)=b[i]::b.drop (i+1))=false:=bY λh=>c (List.cons.inj h).1
   rw [e1,e2]
   simp only [Bool.not_false,if_true,Sem.run_pure]
theorem anu {ρ:bk} {neg:Bool} {op:BinOp} {x y x' y' v:Value} {fs:Array Field} (t:TypeId) (ox oy:Operand) (ht:P.underlying t=some (.struct fs)) (bc:Ka P t fs=true) (eO:op=if neg then .neq else .eql)
  (h:A6 neg fs.size x y=some v) (hx:aK ρ x x') (hy:aK ρ y y'):
  (do eqGuard op t ox oy x' y';binOp op t x' y':Sem Value).run P w=.ok v w/\aK ρ v v:=by
 unfold A6 at h
 split at h
 ·rename_i xs ys
  split at h
  ·rename_i a b ha hb
   split at h
   ·rename_i hl
    simp only [Option.some.injEq] at h
    subst h
    refine ⟨?_,.bool _⟩
    have inv:∀{zs:Array Value} {c:List Int} {z':Value},wX zs.toList=some c->aK ρ (.agg zs) z'->z'=.agg (c.map λi=>Value.int .i64 i).toArray:=by
     intro zs c z' hz hv
     cases hv with
     | @agg _ BI hs hc hr=>
      congr 1
      apply ext'
      have e:=afI hz
      apply List.ext_getElem
      ·have:=congrArg List.length e
       simp at this⊢;omega
      ·intro j h1 h2
       have hj:j<zs.size:=by simp at h1;omega
       have sk:=hr j zs[j] BI[j] (by simp [hj]) (by simp at h1;simp [h1])
       have e2:zs.toList[j]'(by simpa using hj)=.int .i64 (c[j]'(by simpa using h2)):=by
        simp only [e,List.getElem_map]
       have e3:zs[j]=.int .i64 (c[j]'(by simpa using h2)):=by simpa using e2
       rw [e3] at sk
       have:=sk.kT
       simpa using this
    rw [inv ha hx,inv hb hy]
    simp only [Ka,and_eq_true,Bool.not_eq_true'] at bc
    obtain ⟨⟨o1,o2⟩,o3⟩:=bc
    have hfs:P.fieldsOf t=fs:=by simp [Program.fieldsOf,ht]
    have key:(Op.equalIn 10000 t (.agg (a.map λi=>Value.int .i64 i).toArray) (.agg (b.map λi=>Value.int .i64 i).toArray)).run P w=.ok (decide (a=b)) w:=by
     rw [show (10000:Nat)=9998+1+1 from rfl,run_equalIn_struct w _ t _ _ (by rw [hfs];exact ht) o2,hfs]
     have:=ans P w a b 9998 fs.toList 0 o1 (by simp;omega) (by simp;omega)
     simpa using this
    simp only [Sem.run_bind,run_eqGuard_agg w op t ox oy _ _ o3,Result.andThen_ok]
    cases neg <;> simp at eO <;> subst eO
    ·rw [run_eql_struct,key];rfl
    ·rw [run_neq_struct,key];rfl
   ·cases h
  ·cases h
 ·cases h
theorem anw {ρ:bk} {neg:Bool} {op:BinOp} {x y x' y' v:Value} {e:TypeId} (t:TypeId) (ox oy:Operand) (ht:P.underlying t=some (.slice e)) (eO:op=if neg then .neq else .eql)
  (h:oG neg x y=some v) (hx:aK ρ x x') (hy:aK ρ y y'):
  (do eqGuard op t ox oy x' y';binOp op t x' y':Sem Value).run P w=.ok v w/\aK ρ v v:=by
 unfold oG at h
 split at h
 ·rename_i a b ha hb
  split at h
  ·rename_i gT
   simp at h
   subst h
   refine ⟨?_,.bool _⟩
   cases hx <;> simp [IE] at ha <;> cases hy <;> simp [IE] at hb <;> subst ha <;> subst hb <;> simp at gT
   all_goals
    simp only [Sem.run_bind,aJx,Result.andThen_ok]
    cases neg <;> simp at eO <;> subst eO <;> simp only [Lib.run_eql_slice_nil w t e _ _ _ _ _ ht,run_neq_slice_nil_any w t e _ _ _ _ _ ht,run_eql_nil_slice w t e _ _ _ _ _ ht,run_neq_nil_slice w t e _ _ _ _ _ ht] <;> simp
  ·cases h
 ·cases h
theorem aJ5 {ρ:bk} {op:UnOp} {x x' v:Value} (h:gG op x=some v) (hx:aK ρ x x'):(Op.unary op x').run P w=.ok v w/\aK ρ v v:=by
 unfold gG at h
 split at h
 ·rw [hx.kT];simp at h;subst h;exact ⟨by simp [Op.unary,Op.intArith],.int _ _⟩
 ·rw [hx.Ar];simp at h;subst h;exact ⟨by simp [Op.unary],.bool _⟩
 ·rw [hx.kT];simp only [Option.some.injEq] at h;subst h;exact ⟨rfl,.int _ _⟩
 ·cases h
end
end
section
section
variable {P : Program} (w : World)
theorem aBX {t:TypeId} (h:jG P t=true):∃i,P.info? t=some i:=by
 unfold jG at h
 exact Option.isSome_iff_exists.1 h
theorem qD {t:TypeId} (h:jG P t=true):(sizeOf t).run P w=.ok (P.cellsOf t) w:=by
 obtain ⟨i,hi⟩:=aBX h
 exact run_sizeOf w hi
theorem UR {t:TypeId} {d:TypeDesc} (h:P.underlying t=some d):(isAgg t).run P w=.ok (oJ d) w:=by
 cases d <;> simp [isAgg,run_underlying h,oJ]
theorem aC1 {mx:Bool} {k:IntKind} {x:Int} {y v:Value} (h:max2 mx (.int k x) y=some v):∃k' b,y=.int k' b/\∃z,v=.int k z:=by
 unfold max2 at h
 split at h
 ·rename_i k2 x2 k3 y2 e
  cases e
  simp at h
  exact ⟨k3,y2,rfl,_,h.symm⟩
 ·cases h
theorem US {ρ:bk} {mx:Bool}:∀{xs iC:List Value} {k:IntKind} {x:Int} {v:Value},xs.foldlM (max2 mx) (.int k x)=some v->dw ρ xs iC->
  (iC.foldlM (if mx then Builtin.max2 else Builtin.min2) (.int k x):Sem Value).run P w=.ok v w/\aK ρ v v
 | [],iC,k,x,v,h,hs=>by
  cases hs
  simp at h
  subst h
  exact ⟨rfl,.int _ _⟩
 | y::xs,iC,k,x,v,h,hs=>by
  cases hs with
  | cons hy hs=>
   simp only [List.foldlM_cons,Option.bind_eq_bind,bind_eq_some_iff] at h
   obtain ⟨u,hu,h⟩:=h
   obtain ⟨k',b,rfl,z,rfl⟩:=aC1 hu
   have ih:=US (ρ:=ρ) h hs
   refine ⟨?_,ih.2⟩
   rw [hy.kT]
   simp only [List.foldlM_cons,Sem.run_bind]
   simp only [max2,Option.some.injEq,Value.int.injEq,true_and] at hu
   cases mx
   ·simp at hu⊢
    simp only [Builtin.min2,Sem.run_pure,Result.andThen_ok,hu]
    simpa using ih.1
   ·simp at hu⊢
    simp only [Builtin.max2,Sem.run_pure,Result.andThen_ok,gt_iff_lt,hu]
    simpa using ih.1
theorem aJP {ρ:bk} {t:TypeId} {x i x' i' v:Value} (ht:P.underlying t=some .string) (h:tQ x i=some v) (hx:aK ρ x x') (hi:aK ρ i i'):
  (Instr.index t x' i').run P w=.ok v w/\aK ρ v v:=by
 unfold tQ at h
 split at h
 ·rename_i s k j
  rw [hx.vP,hi.kT]
  split at h
  ·rename_i h0
   simp only [map_eq_some_iff] at h
   obtain ⟨b,hb,rfl⟩:=h
   refine ⟨?_,.int _ _⟩
   have qT:s[j.toNat]?=some b:=by
    have aw:=(cm hb).1
    have:j.toNat<s.size:=by rw [DZ];exact aw
    rw [getElem?_pos s j.toNat this]
    have e:=(cm hb).2
    simp only [bytes,Array.getElem_toList] at e
    rw [<-e]
    rfl
   simp [Instr.index,asIntOf,run_underlying ht,h0,qT]
  ·cases h
 ·cases h
theorem aBK {ρ:bk} {agg:Bool} {off sz:Nat} {cs:List Value} {kj:Array Value} {v:Value} (h:dS agg off sz cs=some v) (hs:dw ρ cs kj.toList) (h1:∀x∈cs,jx x=true):
  ∃v',(if agg then some (.agg (kj.extract off (off+sz))) else kj[off]?)=some v'/\aK ρ v v':=by
 unfold dS at h
 cases agg
 ·simp at h⊢
  obtain ⟨y,hy,hr⟩:=hs.get h
  exact ⟨y,by simpa using hy,hr⟩
 ·simp at h⊢
  obtain ⟨hl,rfl⟩:=h
  have:=((hs.drop off).take sz)
  have e:(kj.extract off (off+sz))=((kj.toList.drop off).take sz).toArray:=by
   apply ext'
   simp [List.take_drop]
  rw [e]
  exact .FC this (λx hx=>h1 x (List.mem_of_mem_drop (List.mem_of_mem_take hx)))
theorem anC {ρ:bk} {t:TypeId} {d:TypeDesc} {off:Nat} {cs:List Value} {kj:Array Value} {v:Value} (ht:P.underlying t=some d) (hk:jG P t=true)
  (h:dS (oJ d) off (P.cellsOf t) cs=some v) (hs:dw ρ cs kj.toList) (h1:∀x∈cs,jx x=true):
  ∃v',(part t kj off).run P w=.ok v' w/\aK ρ v v':=by
 obtain ⟨v',hv,hr⟩:=aBK h hs h1
 refine ⟨v',?_,hr⟩
 unfold part
 simp only [Sem.run_bind,UR w ht,Result.andThen_ok]
 cases hd:oJ d
 ·rw [hd] at hv
  simp at hv⊢
  rw [hv]
  rfl
 ·rw [hd] at hv
  simp at hv⊢
  simp only [qD w hk,Result.andThen_ok,hv]
theorem aK.Yf {ρ:bk} {cs:Array Value} {x':Value} (h:aK ρ (.agg cs) x'):∃kj,x'=.agg kj/\dw ρ cs.toList kj.toList/\∀x∈cs.toList,jx x=true:=by
 cases h with
 | agg hs h1 h=>exact ⟨_,rfl,dw.zL hs h,h1⟩
theorem aJO {ρ:bk} {t e:TypeId} {d:TypeDesc} {n:Nat} {x i x' i' v:Value} (ht:P.underlying t=some (.array n e)) (he:P.underlying e=some d) (hk:jG P e=true)
  (h:Q1 n (P.cellsOf e) (oJ d) x i=some v) (hx:aK ρ x x') (hi:aK ρ i i'):
  ∃v',(Instr.index t x' i').run P w=.ok v' w/\aK ρ v v':=by
 unfold Q1 at h
 split at h
 ·rename_i cs k j
  obtain ⟨kj,rfl,hs,h1⟩:=hx.Yf
  rw [hi.kT]
  split at h
  ·rename_i h0
   obtain ⟨v',hr,hv⟩:=anC w he hk h hs h1
   refine ⟨v',?_,hv⟩
   simp [Instr.index,asIntOf,run_underlying ht,h0,qD w hk,hr]
  ·cases h
 ·cases h
theorem aJN {ρ:bk} {t:TypeId} {fs:Array Field} {f:Nat} {fd:Field} {d:TypeDesc} {x x' v:Value} (ht:P.underlying t=some (.struct fs)) (hf:fs[f]?=some fd) (he:P.underlying fd.type=some d)
  (hk:jG P fd.type=true) (h:yX (oJ d) fd.offset (P.cellsOf fd.type) x=some v) (hx:aK ρ x x'):
  ∃v',(Instr.field t x' f).run P w=.ok v' w/\aK ρ v v':=by
 unfold yX at h
 split at h
 ·rename_i cs
  obtain ⟨kj,rfl,hs,h1⟩:=hx.Yf
  obtain ⟨v',hr,hv⟩:=anC w he hk h hs h1
  refine ⟨v',?_,hv⟩
  simp [Instr.field,run_underlying ht,hf,asAgg,hr]
 ·cases h
theorem aJA {ρ:bk} {t e:TypeId} {x i x' i' v:Value} (ht:P.underlying t=some (.slice e)) (hk:jG P e=true)
  (h:aD (P.cellsOf e) x i=some v) (hx:aK ρ x x') (hi:aK ρ i i'):
  ∃v',(Instr.indexAt t x' i').run P w=.ok v' w/\aK ρ v v':=by
 unfold aD at h
 split at h
 ·rename_i id o e' n c k j
  split at h
  ·rename_i h0
   simp at h
   subst h
   rw [hi.kT]
   cases hx with
   | slice hr ho hn hc hb ek=>
    rename_i o' c' r
    have fU:o'=r.sh+o:=by
     rcases ho with ho | ⟨h1,h2,h3⟩
     ·exact ho
     ·omega
    subst fU
    refine ⟨_,?_,aK.ptr hr⟩
    simp [Instr.indexAt,asIntOf,run_underlying ht,h0,qD w hk,Addr.add_lit,Nat.add_assoc]
  ·cases h
 ·cases h
theorem aK.DO {ρ:bk} {id o:Nat} {x':Value} (h:aK ρ (.pointer (some ⟨id,o,none⟩)) x'):∃r,ρ id=some r/\x'=.pointer (some ⟨r.cZ,r.sh+o,none⟩):=by
 cases h with
 | ptr hr=>exact ⟨_,hr,rfl⟩
theorem aJz {ρ:bk} {t e:TypeId} {n:Nat} {x i x' i' v:Value} (ht:P.underlying t=some (.array n e)) (hk:jG P e=true)
  (h:QY n (P.cellsOf e) x i=some v) (hx:aK ρ x x') (hi:aK ρ i i'):
  ∃v',(Instr.indexAt t x' i').run P w=.ok v' w/\aK ρ v v':=by
 unfold QY at h
 split at h
 ·rename_i id o k j
  split at h
  ·rename_i h0
   simp at h
   subst h
   rw [hi.kT]
   obtain ⟨r,hr,rfl⟩:=hx.DO
   refine ⟨_,?_,aK.ptr hr⟩
   simp [Instr.indexAt,asIntOf,run_underlying ht,h0,qD w hk,Instr.sureAddr,Addr.add_lit,Nat.add_assoc]
  ·cases h
 ·cases h
theorem aJM {ρ:bk} {t:TypeId} {fs:Array Field} {f:Nat} {fd:Field} {x x' v:Value} (ht:P.underlying t=some (.struct fs)) (hf:fs[f]?=some fd) (hk:jG P fd.type=true)
  (hz:P.cellsOf fd.type≠0) (h:aF fd.offset x=some v) (hx:aK ρ x x'):
  ∃v',(Instr.fieldAt t x' f).run P w=.ok v' w/\aK ρ v v':=by
 unfold aF at h
 split at h
 ·rename_i id o
  simp at h
  subst h
  obtain ⟨r,hr,rfl⟩:=hx.DO
  refine ⟨_,?_,aK.ptr hr⟩
  simp [Instr.fieldAt,run_underlying ht,hf,Instr.sureAddr,fieldPlace,qD w hk,hz,Addr.add_lit,Nat.add_assoc]
 ·cases h
theorem agF {ρ:bk} {v v':Value} {n:Nat} (h:og v=some n) (hv:aK ρ v v'):∃k i,v'=.int k i/\0<=i/\i.toNat=n:=by
 unfold og at h
 split at h
 ·rename_i k i
  rw [hv.kT]
  split at h
  ·rename_i h0
   simp at h
   exact ⟨k,i,rfl,h0,h⟩
  ·cases h
 ·cases h
def xN (ρ:bk):Option Value->Option Value->Prop
 | none,none=>True
 | some a,some b=>aK ρ a b
 | _,_=>False
theorem UQ {ρ:bk} {n cap:Nat} {isSlice:Bool} {lo hi pC iN:Option Value} {l h:Nat} (he:mE n lo hi=some (l,h)) (hc:n<=cap) (fO:xN ρ lo pC) (kE:xN ρ hi iN):
  (Instr.sliceBounds isSlice n cap pC iN none).run P w=.ok (l,h,cap) w/\l<=h/\h<=n:=by
 unfold mE at he
 split at he
 ·rename_i l1 h1 hl hh
  split at he
  ·rename_i hb
   simp at he
   obtain ⟨rfl,rfl⟩:=he
   refine ⟨?_,hb.1,hb.2⟩
   have bh:∀(v:Value),iN=some v->∃k i,v=.int k i/\0<=i/\i.toNat=h1:=by
    intro v hv
    subst hv
    cases hi with
    | none=>exact kE.elim
    | some u=>exact agF hh kE
   have bh0:iN=none->h1=n:=by
    intro hv
    subst hv
    cases hi with
    | none=>simpa using hh.symm
    | some u=>exact kE.elim
   have bl:∀(v:Value),pC=some v->∃k i,v=.int k i/\0<=i/\i.toNat=l1:=by
    intro v hv
    subst hv
    cases lo with
    | none=>exact fO.elim
    | some u=>exact agF hl fO
   have Yn:pC=none->l1=0:=by
    intro hv
    subst hv
    cases lo with
    | none=>simpa using hl.symm
    | some u=>exact fO.elim
   unfold Instr.sliceBounds
   cases iN with
   | none=>
    obtain rfl:=bh0 rfl
    cases pC with
    | none=>obtain rfl:=Yn rfl;simp
    | some v=>
     obtain ⟨k,i,rfl,h0,rfl⟩:=bl v rfl
     have:i<=(h1:Int):=by omega
     simp [Instr.sliceBound,asIntOf,h0,this]
   | some u=>
    obtain ⟨k,i,rfl,h0,rfl⟩:=bh u rfl
    have hic:i<=(cap:Int):=by omega
    cases pC with
    | none=>obtain rfl:=Yn rfl;simp [Instr.sliceBound,asIntOf,h0,hic]
    | some v=>
     obtain ⟨k2,j,rfl,h2,rfl⟩:=bl v rfl
     have:j<=i:=by omega
     simp [Instr.sliceBound,asIntOf,h0,hic,h2,this,Int.toNat_of_nonneg h0]
  ·cases he
 ·cases he
theorem az9 (s:ByteArray) (l h:Nat):s.extract l h=⟨(((bytes s).take h).drop l).toArray⟩:=by
 apply ByteArray.ext
 apply ext'
 simp only [bytes,ByteArray.data_extract,Array.toList_extract,List.drop_take]
theorem aJ1 {ρ:bk} {t:TypeId} {x x' v:Value} {lo hi pC iN:Option Value} (ht:P.underlying t=some .string) (h:yY x lo hi=some v) (hx:aK ρ x x')
  (fO:xN ρ lo pC) (kE:xN ρ hi iN):(Instr.sliceAt t x' pC iN none).run P w=.ok v w/\aK ρ v v:=by
 unfold yY at h
 split at h
 ·rename_i s
  rw [hx.vP]
  simp only [map_eq_some_iff,Prod.exists] at h
  obtain ⟨l,u,hb,rfl⟩:=h
  obtain ⟨hr,h1,h2⟩:=UQ (P:=P) w (isSlice:=false) hb (le_refl _) fO kE
  refine ⟨?_,aK.S _ _⟩
  rw [<-DZ] at hr
  simp [Instr.sliceAt,Instr.slice,run_underlying ht,hr,S,az9]
 ·cases h
theorem ac4 {n m c' l u esz:Nat} {lo hi:Option Value} (hb:mE n lo hi=some (l,u)) (ek:n<=m/\m<=c'):u-l<=pc esz lo (u-l) m/\pc esz lo (u-l) m<=c' -l:=by
 have hu:l<=u/\u<=n/\(lo=none->l=0):=by
  unfold mE at hb
  split at hb
  ·rename_i h1 h2
   split at hb
   ·simp at hb
    refine ⟨by omega,by omega,λe=>?_⟩
    subst e
    simp at h1
    omega
   ·cases hb
  ·cases hb
 unfold pc
 split
 ·omega
 ·split
  ·have:=hu.2.2 rfl
   omega
  ·omega
theorem aJ2 {ρ:bk} {t e:TypeId} {x x' v:Value} {lo hi pC iN:Option Value} (hH:∀i r,ρ i=some r->r.esz=P.cellsOf r.elem) (ht:P.underlying t=some (.slice e)) (hk:jG P e=true)
  (h:fP e (P.cellsOf e) x lo hi=some v) (hx:aK ρ x x') (fO:xN ρ lo pC) (kE:xN ρ hi iN):
  ∃v',(Instr.sliceAt t x' pC iN none).run P w=.ok v' w/\aK ρ v v':=by
 unfold fP at h
 split at h
 ·simp only [map_eq_some_iff,Prod.exists] at h
  obtain ⟨l,u,hb,rfl⟩:=h
  obtain ⟨hr,h1,h2⟩:=UQ (P:=P) w (isSlice:=true) hb (le_refl _) fO kE
  cases hx
  refine ⟨_,?_,.qw⟩
  obtain rfl:u=0:=by omega
  obtain rfl:l=0:=by omega
  simp [Instr.sliceAt,Instr.slice,run_underlying ht,hr,qD w hk]
 ·rename_i id o e' n c
  split at h
  ·rename_i hee
   subst hee
   simp only [map_eq_some_iff,Prod.exists] at h
   obtain ⟨l,u,hb,rfl⟩:=h
   cases hx with
   | slice hr ho hn hc wG ek=>
    rename_i o' c' r
    obtain ⟨gQ,h1,h2⟩:=UQ (P:=P) w (isSlice:=true) hb hn fO kE
    have kP:=hH _ _ hr
    by_cases gP:c'=l
    ·refine ⟨.slice (some ⟨r.cZ,o',none⟩) (u-l) (c' -l),?_,?_⟩
     ·rw [gP] at gQ⊢
      simp [Instr.sliceAt,Instr.slice,run_underlying ht,gQ,qD w hk]
     ·refine aK.slice hr ?_ (by omega) (by omega) ?_ (ac4 hb ek)
      ·rcases Nat.eq_zero_or_pos (l*P.cellsOf r.elem) with hz | hz
       ·rw [hz]
        rcases ho with ho | ⟨q1,q2,q3⟩
        ·exact .inl (by omega)
        ·exact .inr ⟨by omega,by omega,by omega⟩
       ·exact .inr ⟨by omega,by omega,by omega⟩
      ·have:c' -l=0:=by omega
       rw [this]
       have:o'<=o'+c'*r.esz:=Nat.le_add_right _ _
       omega
    ·refine ⟨.slice (some ⟨r.cZ,o'+l*P.cellsOf r.elem,none⟩) (u-l) (c' -l),?_,?_⟩
     ·simp [Instr.sliceAt,Instr.slice,run_underlying ht,gQ,qD w hk,gP,Addr.add_lit]
     ·refine aK.slice hr ?_ (by omega) (by omega) ?_ (ac4 hb ek)
      ·rcases ho with ho | ⟨q1,q2,q3⟩
       ·exact .inl (by omega)
       ·exfalso;omega
      ·rw [<-kP]
       have e1:l*r.esz+(c' -l)*r.esz=c'*r.esz:=by rw [<-add_mul];congr 1;omega
       omega
  ·cases h
 ·cases h
theorem aJZ {ρ:bk} {o:Oper} {ox:Operand} {g':Operand->Value} {x v:Value} (ho:o.op=.nilCheck ox) (h:eJ x=some v) (hx:aK ρ x (g' ox)):
  ∃v',(execOp g' o).run P w=.ok (.value v') w/\aK ρ v v':=by
 unfold eJ at h
 split at h
 ·simp at h
  subst h
  generalize hy:g' ox=y at hx
  have dN:=hx
  cases hx with
  | ptr hr=>
   refine ⟨_,?_,dN⟩
   simp [execOp,ho,hy]
 ·simp at h
  subst h
  generalize hy:g' ox=y at hx
  have dN:=hx
  cases hx with
  | func f a b c d=>
   refine ⟨_,?_,dN⟩
   simp [execOp,ho,hy]
  | yield hr=>
   refine ⟨_,?_,dN⟩
   simp [execOp,ho,hy]
 ·cases h
theorem aJL {ρ:bk} {x x' v:Value} {i:Nat} (h:cW i x=some v) (hx:aK ρ x x'):∃v',(Instr.extract x' i).run P w=.ok v' w/\aK ρ v v':=by
 unfold cW at h
 split at h
 ·cases hx with
  | tuple hs hr=>
   obtain ⟨y,hy,hv⟩:=(dw.zL hs hr).get (k:=i) (x:=v) (by simpa using h)
   refine ⟨y,?_,hv⟩
   simp only [getElem?_toList] at hy
   simp [Instr.extract,hy]
 ·cases h
end
theorem dw.zp {ρ:bk} {g g':Operand->Value} (hg:∀x,kF x=true->aK ρ (g x) (g' x)):∀{xs:List Operand},xs.all kF=true->dw ρ (xs.map g) (xs.map g')
 | [],_=>.nil
 | x::xs,h=>by
  simp at h
  exact .cons (hg x h.1) (dw.zp hg (by simpa using h.2))
end
section
theorem aKb (l:List Value) (o:Nat) (v:Value) (vs:List Value) (h:o<l.length):setAt (l.set o v) (o+1) vs=setAt l o (v::vs):=by
 have e:l.set o v=l.take o++v::l.drop (o+1):=by rw [List.set_eq_take_append_cons_drop,if_pos h]
 have hl:(l.take o).length=o:=by simp;omega
 unfold setAt
 have e1:(l.set o v).take (o+1)=l.take o++[v]:=by
  rw [e,List.take_append,hl,List.take_of_length_le (by omega)]
  simp
 have e2:(l.set o v).drop (o+1+vs.length)=l.drop (o+(v::vs).length):=by
  rw [List.drop_set,if_pos (by omega)]
  congr 1
  simp
  omega
 rw [e1,e2]
 simp
theorem aKf (vs:List Value):∀(off i:Nat) (cs:Array Value),off+i+vs.length<=cs.size->
  ((vs.zipIdx i).foldl (λcs (c,j)=>cs.setIfInBounds (off+j) c) cs).toList=setAt cs.toList (off+i) vs:=by
 induction vs with
 | nil=>intro off i cs h;simp [setAt]
 | cons v vs ih=>
  intro off i cs h
  simp only [List.zipIdx_cons,List.foldl_cons]
  rw [ih off (i+1) _ (by simp at h⊢;omega)]
  rw [Array.toList_setIfInBounds,show off+(i+1)=off+i+1 by omega]
  exact aKb _ _ _ _ (by simp at h⊢;omega)
theorem aKe {ρ:bk} {xs ys:List Value} (h:dw ρ xs ys) {o:Nat} {vs kX:List Value} (hv:dw ρ vs kX):dw ρ (setAt xs o vs) (setAt ys o kX):=by
 unfold setAt
 rw [<-hv.length]
 exact ((h.take o).append hv).append (h.drop _)
theorem aKc {xs:List Value} {o:Nat} {vs:List Value} {p:Value->Prop} (h:∀x∈xs,p x) (hv:∀x∈vs,p x):∀x∈setAt xs o vs,p x:=by
 intro x hx
 unfold setAt at hx
 simp only [List.mem_append] at hx
 rcases hx with (hx | hx) | hx
 ·exact h x (List.mem_of_mem_take hx)
 ·exact hv x hx
 ·exact h x (List.mem_of_mem_drop hx)
inductive uA (ρ:bk) (place:Nat->Option (Nat×Nat)):List (Nat×Nat×Value)->List (Nat×Value)->Prop
 | nil:uA ρ place [] []
 | cons {o s i:Nat} {v v':Value} {ps:List (Nat×Nat×Value)} {qs:List (Nat×Value)}:place i=some (o,s)->aK ρ v v'->uA ρ place ps qs->uA ρ place ((o,s,v)::ps) ((i,v')::qs)
theorem Px {ρ:bk} {place:Nat->Option (Nat×Nat)} {ps:List (Nat×Nat×Value)} {qs:List (Nat×Value)} (hp:uA ρ place ps qs):
  ∀{xs cs:List Value} {ys:Array Value},jE xs ps=some cs->dw ρ xs ys.toList->(∀x∈xs,jx x=true)->
   ∃kj,Instr.fill place ys qs=some kj/\dw ρ cs kj.toList/\(∀x∈cs,jx x=true)/\cs.length=xs.length:=by
 induction hp with
 | nil=>
  intro xs cs ys h hs h1
  simp [jE] at h
  subst h
  exact ⟨ys,by simp [Instr.fill],hs,h1,rfl⟩
 | cons oD hv _ ih=>
  rename_i o s i v v' ps qs _
  intro xs cs ys h hs h1
  simp only [jE] at h
  split at h
  ·rename_i hc
   obtain ⟨ht,hl,ho⟩:=hc
   have A3:=hv.cells ht
   have qW:v'.cells.size=s:=by rw [<-hl,A3.length];simp [dL]
   have nH:o+v'.cells.size<=ys.size:=by have:=hs.length;simp at this;omega
   have aeA:=aKf (dL v') o 0 ys (by simp [dL];omega)
   simp only [Nat.add_zero] at aeA
   have wF:v'.cells.zipIdx.foldl (λcs x=>cs.setIfInBounds (o+x.2) x.1) ys=(setAt ys.toList o (dL v')).toArray:=by
    apply ext'
    rw [<-aeA,<-Array.foldl_toList]
    simp [dL,Array.toList_zipIdx]
   obtain ⟨kj,hf,hr,h2,hlen⟩:=ih (ys:=(setAt ys.toList o (dL v')).toArray) h (by simpa using aKe hs A3) (aKc h1 (hv.Hl ht))
   refine ⟨kj,?_,hr,h2,?_⟩
   ·unfold Instr.fill
    simp only [oD]
    rw [if_neg (by simp [qW];omega)]
    rw [<-hf,<-wF]
   ·rw [hlen]
    simp [setAt]
    omega
  ·cases h
theorem BH {P:Program} {t:TypeId} {zs:List Value} (h:zeroOf P t=some zs):
  ∃i z,P.info? t=some i/\i.zero=some z/\zs=dL z/\fV z=true/\(∀x∈zs,mN x=true/\jx x=true)/\zs.length=i.size:=by
 unfold zeroOf at h
 split at h
 ·rename_i i hi
  split at h
  ·rename_i z hz
   split at h
   ·rename_i hc
    simp at h
    subst h
    simp only [and_eq_true,all_eq_true,As,beq_iff_eq] at hc
    exact ⟨i,z,hi,hz,rfl,hc.1.1,λx hx=>hc.1.2 x hx,hc.2⟩
   ·cases h
  ·cases h
 ·cases h
theorem dw.closed {ρ:bk}:∀{zs:List Value},(∀x∈zs,mN x=true)->dw ρ zs zs
 | [],_=>.nil
 | x::zs,h=>.cons (mN.rel (h x (by simp))) (dw.closed λy hy=>h y (by simp [hy]))
section
variable {P : Program} (w : World)
theorem zG {t:TypeId} {i:TypeInfo} {z:Value} (hi:P.info? t=some i) (hz:i.zero=some z):(zeroValue t).run P w=.ok z w:=by
 simp [zeroValue,typeInfo,hi,hz]
theorem anF:∀(fs:List Field),(∀f∈fs,jG P f.type=true)->
  (fs.mapM (m:=Sem) λf=>do pure (f.offset,<-sizeOf f.type)).run P w=.ok (fs.map λf=>(f.offset,P.cellsOf f.type)) w
 | [],_=>rfl
 | f::fs,h=>by
  have ih:=anF fs (λg hg=>h g (by simp [hg]))
  simp only [List.mapM_cons,Sem.run_bind,qD w (h f (by simp)),Result.andThen_ok,Sem.run_pure,ih,List.map_cons]
end
end
section
section
variable {P : Program} (w : World) {ρ : bk} {g g' : Operand -> Value}
theorem Je (hg:∀x,kF x=true->aK ρ (g x) (g' x)) (l:Option Operand) (h:l.toArray.all kF=true):xN ρ (l.map g) (l.map g'):=by
 cases l with
 | none=>trivial
 | some x=>exact hg x (by simpa using h)
theorem amG (hg:∀x,kF x=true->aK ρ (g x) (g' x)) (place:Nat->Option (Nat×Nat)):∀(qs:List (Nat×Operand)) (ps:List (Nat×Nat×Operand)),
  qs.mapM (m:=Option) (λ(i,x)=>(place i).map λ(o,s)=>(o,s,x))=some ps->(∀q∈qs,kF q.2=true)->
  uA ρ place (ps.map λ(o,s,x)=>(o,s,g x)) (qs.map λ(i,x)=>(i,g' x))
 | [],ps,h,_=>by
  simp at h
  subst h
  exact .nil
 | (i,x)::qs,ps,h,hq=>by
  simp only [List.mapM_cons,Option.bind_eq_bind,bind_eq_some_iff] at h
  obtain ⟨p,hp,ps',Qx,h⟩:=h
  simp at h
  subst h
  simp only [map_eq_some_iff] at hp
  obtain ⟨⟨o,s⟩,oD,rfl⟩:=hp
  exact .cons oD (hg x (hq (i,x) (by simp))) (amG hg place qs ps' Qx λq hm=>hq q (by simp [hm]))
theorem Uo (hg:∀x,kF x=true->aK ρ (g x) (g' x)) (pl:Nat->Nat×Nat):∀(qs:List (Nat×Operand)),(∀q∈qs,kF q.2=true)->
  uA ρ (λi=>some (pl i)) ((qs.map λ(i,x)=>((pl i).1,(pl i).2,x)).map λ(o,s,x)=>(o,s,g x)) (qs.map λ(i,x)=>(i,g' x))
 | [],_=>.nil
 | (i,x)::qs,hq=>.cons rfl (hg x (hq (i,x) (by simp))) (Uo hg pl qs λq hm=>hq q (by simp [hm]))
theorem aJG {t:TypeId} {fs:Array Field} {zs:List Value} {ps:List (Nat×Nat×Value)} {qs:Array (Nat×Value)} {v:Value} (ht:P.underlying t=some (.struct fs)) (hz:zeroOf P t=some zs)
  (hk:∀f∈fs.toList,jG P f.type=true) (hp:uA ρ ((placesOf P fs)[·]?) ps qs.toList) (h:eI zs ps=some v):
  ∃v',(Instr.build t qs).run P w=.ok v' w/\aK ρ v v':=by
 obtain ⟨i,z,hi,qt,rfl,qY,gP,hlen⟩:=BH hz
 simp only [eI,map_eq_some_iff] at h
 obtain ⟨cs,hf,rfl⟩:=h
 obtain ⟨kj,AO,hr,h1,_⟩:=Px (ys:=z.cells) hp hf (dw.closed λx hx=>(gP x hx).1) (λx hx=>(gP x hx).2)
 refine ⟨.agg kj,?_,?_⟩
 ·have hm:=anF (P:=P) w fs.toList hk
  have kk:(fs.mapM (m:=Sem) λf=>do pure (f.offset,<-sizeOf f.type)).run P w=.ok (fs.toList.map λf=>(f.offset,P.cellsOf f.type)).toArray w:=by
   rw [Array.mapM_eq_mapM_toList]
   simp only [Sem.run_map,hm,Result.andThen_ok]
  have oD:(λ(x:Nat)=>((fs.toList.map λf=>(f.offset,P.cellsOf f.type)).toArray)[x]?)=((placesOf P fs)[·]?):=by
   funext x
   simp [placesOf]
  simp only [Instr.build,Sem.run_bind,zG w hi qt,Result.andThen_ok,run_underlying ht,kk]
  rw [oD,AO]
  simp
 ·have:=aK.FC (ρ:=ρ) hr h1
  simpa using this
theorem aJF {t e:TypeId} {n:Nat} {zs:List Value} {ps:List (Nat×Nat×Value)} {qs:Array (Nat×Value)} {v:Value} (ht:P.underlying t=some (.array n e)) (hz:zeroOf P t=some zs)
  (hk:jG P e=true) (hp:uA ρ (λi=>some (i*P.cellsOf e,P.cellsOf e)) ps qs.toList) (h:eI zs ps=some v):
  ∃v',(Instr.build t qs).run P w=.ok v' w/\aK ρ v v':=by
 obtain ⟨i,z,hi,qt,rfl,qY,gP,hlen⟩:=BH hz
 simp only [eI,map_eq_some_iff] at h
 obtain ⟨cs,hf,rfl⟩:=h
 obtain ⟨kj,AO,hr,h1,_⟩:=Px (ys:=z.cells) hp hf (dw.closed λx hx=>(gP x hx).1) (λx hx=>(gP x hx).2)
 refine ⟨.agg kj,?_,?_⟩
 ·simp only [Instr.build,Sem.run_bind,zG w hi qt,Result.andThen_ok,run_underlying ht,qD w hk]
  rw [AO]
  simp
 ·have:=aK.FC (ρ:=ρ) hr h1
  simpa using this
theorem aAb {fn:Func} (h:fn.name= "internal/bytealg.IndexByteString"):Extern.find fn=some Extern.BytealgIndexByte.indexByte:=by
 unfold Extern.find
 rw [h]
 rfl
theorem az8 {f:FuncId} (h:Pt P f=true):∃fn,P.funcs[f]?=some fn/\(fn.name== "runtime.NumGoroutine")=false/\fn.body.isNone=true/\Extern.findNext fn=none/\Extern.find fn=some Extern.BytealgIndexByte.indexByte:=by
 unfold Pt at h
 split at h
 ·rename_i fn hf
  simp only [and_eq_true,beq_iff_eq] at h
  obtain ⟨⟨h1,h2⟩,h3⟩:=h
  exact ⟨fn,hf,by rw [h2];decide,h1,by simpa using h3,aAb h2⟩
 ·cases h
theorem aDB {o:Oper} {po:p7} (hc:jM P o.op=some po) (bc:o.op.operands.all kF=true) (hH:∀i r,ρ i=some r->r.esz=P.cellsOf r.elem)
  (hg:∀x,kF x=true->aK ρ (g x) (g' x)) {v:Value} (hi:kn po g=some v):∃v',(execOp g' o).run P w=.ok (.value v') w/\aK ρ v v':=by
 cases ho:o.op with
 | move x=>
  rw [ho] at hc bc
  simp [jM] at hc;subst hc
  simp [Op.operands] at bc
  simp [kn] at hi;subst hi
  exact ⟨g' x,by simp [execOp,ho],hg x bc⟩
 | assign x=>
  rw [ho] at hc bc
  simp [jM] at hc;subst hc
  simp [Op.operands] at bc
  simp [kn] at hi;subst hi
  exact ⟨g' x,by simp [execOp,ho],hg x bc⟩
 | pick c a b=>
  rw [ho] at hc bc
  simp [jM] at hc;subst hc
  simp [Op.operands] at bc
  simp only [kn,bu] at hi
  split at hi
  ·rename_i t ht
   have hcb:=hg c bc.1
   rw [ht] at hcb
   simp at hi;subst hi
   refine ⟨if t then g' a else g' b,by simp [execOp,ho,hcb.Ar,asBool],?_⟩
   cases t
   ·simpa using hg b bc.2.2
   ·simpa using hg a bc.2.1
  ·cases hi
 | binOp op t x y yt=>
  rw [ho] at hc bc
  simp [Op.operands] at bc
  have hx:=hg x bc.1
  have hy:=hg y bc.2
  simp only [jM] at hc
  have fin:∀v',(do eqGuard op t x y (g' x) (g' y);binOp op t (g' x) (g' y):Sem Value).run P w=.ok v' w->(execOp g' o).run P w=.ok (.value v') w:=by
   intro v' h
   simp only [execOp,ho]
   simp only [Sem.run_bind] at h⊢
   rw [h]
   rfl
  split at hc
  ·split at hc
   ·simp at hc;subst hc
    obtain ⟨h1,h2⟩:=anu P w (op:=.eql) t x y ‹_› ‹_› rfl hi hx hy
    exact ⟨v,fin v h1,h2⟩
   ·simp at hc;subst hc
    obtain ⟨h1,h2⟩:=UP P w (op:=.eql) t x y hi hx hy
    exact ⟨v,fin v h1,h2⟩
  ·split at hc
   ·simp at hc;subst hc
    obtain ⟨h1,h2⟩:=anu P w (op:=.neq) t x y ‹_› ‹_› rfl hi hx hy
    exact ⟨v,fin v h1,h2⟩
   ·simp at hc;subst hc
    obtain ⟨h1,h2⟩:=UP P w (op:=.neq) t x y hi hx hy
    exact ⟨v,fin v h1,h2⟩
  ·simp at hc;subst hc
   obtain ⟨h1,h2⟩:=anv P w (op:=.eql) t x y ‹_› rfl hi hx hy
   exact ⟨v,fin v h1,h2⟩
  ·simp at hc;subst hc
   obtain ⟨h1,h2⟩:=anv P w (op:=.neq) t x y ‹_› rfl hi hx hy
   exact ⟨v,fin v h1,h2⟩
  ·simp at hc;subst hc
   obtain ⟨h1,h2⟩:=anw P w (op:=.eql) t x y ‹_› rfl hi hx hy
   exact ⟨v,fin v h1,h2⟩
  ·simp at hc;subst hc
   obtain ⟨h1,h2⟩:=anw P w (op:=.neq) t x y ‹_› rfl hi hx hy
   exact ⟨v,fin v h1,h2⟩
  ·simp at hc;subst hc
   obtain ⟨h1,h2⟩:=UP P w t x y hi hx hy
   exact ⟨v,fin v h1,h2⟩
 | unOp op t x=>
  rw [ho] at hc bc
  simp [jM] at hc;subst hc
  simp [Op.operands] at bc
  obtain ⟨h1,h2⟩:=aJ5 P w hi (hg x bc)
  exact ⟨v,by simp [execOp,ho,h1],h2⟩
 | convert s d x=>
  rw [ho] at hc bc
  simp [Op.operands] at bc
  simp only [jM] at hc
  split at hc
  ·rename_i k0 k hs hd
   simp at hc;subst hc
   simp only [kn,dI] at hi
   split at hi
   ·rename_i k1 n hx
    have:=hg x bc
    rw [hx] at this
    simp at hi;subst hi
    refine ⟨_,?_,.int _ _⟩
    simp [execOp,ho,this.kT,convert,run_underlying hs,run_underlying hd,Conv.intToInt]
   ·cases hi
  ·rename_i hs hd
   simp at hc;subst hc
   simp only [kn,afA] at hi
   split at hi
   ·rename_i z hx
    have:=hg x bc
    rw [hx] at this
    simp at hi;subst hi
    refine ⟨_,?_,.string _⟩
    simp [execOp,ho,this.vP,convert,run_underlying hs,run_underlying hd]
   ·cases hi
  ·rename_i k0 hs hd
   simp at hc;subst hc
   simp only [kn,afz] at hi
   split at hi
   ·rename_i k1 n hx
    have:=hg x bc
    rw [hx] at this
    simp at hi;subst hi
    refine ⟨_,?_,.string _⟩
    simp [execOp,ho,this.kT,convert,run_underlying hs,run_underlying hd,Conv.intToString]
   ·cases hi
  ·cases hc
 | indexAddr t x i=>
  rw [ho] at hc bc
  simp [Op.operands] at bc
  simp only [jM] at hc
  split at hc
  ·rename_i e ht
   split at hc
   ·rename_i hk
    simp at hc;subst hc
    obtain ⟨v',h1,h2⟩:=aJA w ht hk hi (hg x bc.1) (hg i bc.2)
    exact ⟨v',by simp [execOp,ho,h1],h2⟩
   ·cases hc
  ·rename_i n e ht
   split at hc
   ·rename_i hk
    simp at hc;subst hc
    obtain ⟨v',h1,h2⟩:=aJz w ht hk hi (hg x bc.1) (hg i bc.2)
    exact ⟨v',by simp [execOp,ho,h1],h2⟩
   ·cases hc
  ·cases hc
 | index t x i=>
  rw [ho] at hc bc
  simp [Op.operands] at bc
  simp only [jM] at hc
  split at hc
  ·rename_i ht
   simp at hc;subst hc
   obtain ⟨h1,h2⟩:=aJP w ht hi (hg x bc.1) (hg i bc.2)
   exact ⟨v,by simp [execOp,ho,h1],h2⟩
  ·rename_i n e ht
   split at hc
   ·rename_i d hd
    split at hc
    ·rename_i hk
     simp at hc;subst hc
     simp only [and_eq_true] at hk
     obtain ⟨v',h1,h2⟩:=aJO w ht hd hk.1 hi (hg x bc.1) (hg i bc.2)
     exact ⟨v',by simp [execOp,ho,h1],h2⟩
    ·cases hc
   ·cases hc
  ·cases hc
 | fieldAddr t x f=>
  rw [ho] at hc bc
  simp [Op.operands] at bc
  simp only [jM] at hc
  split at hc
  ·rename_i fs ht
   split at hc
   ·rename_i fd hf
    split at hc
    ·rename_i hk
     simp at hc;subst hc
     simp only [and_eq_true,bne_iff_ne] at hk
     obtain ⟨v',h1,h2⟩:=aJM w ht hf hk.1 hk.2 hi (hg x bc)
     exact ⟨v',by simp [execOp,ho,h1],h2⟩
    ·cases hc
   ·cases hc
  ·cases hc
 | field t x f=>
  rw [ho] at hc bc
  simp [Op.operands] at bc
  simp only [jM] at hc
  split at hc
  ·rename_i fs ht
   split at hc
   ·rename_i fd hf
    split at hc
    ·rename_i d hd
     split at hc
     ·rename_i hk
      simp at hc;subst hc
      simp only [and_eq_true] at hk
      obtain ⟨v',h1,h2⟩:=aJN w ht hf hd hk.1 hi (hg x bc)
      exact ⟨v',by simp [execOp,ho,h1],h2⟩
     ·cases hc
    ·cases hc
   ·cases hc
  ·cases hc
 | slice t x lo iN mx=>
  rw [ho] at hc bc
  simp only [jM] at hc
  split at hc
  ·rename_i ht
   simp at hc;subst hc
   simp only [Op.operands,Array.all_append,and_eq_true] at bc
   obtain ⟨⟨⟨h0,h1⟩,h2⟩,_⟩:=bc
   obtain ⟨k1,k2⟩:=aJ1 w ht hi (hg x (by simpa using h0)) (Je hg lo h1) (Je hg iN h2)
   exact ⟨v,by simp [execOp,ho,k1],k2⟩
  ·rename_i e ht
   split at hc
   ·rename_i hk
    simp at hc;subst hc
    simp only [Op.operands,Array.all_append,and_eq_true] at bc
    obtain ⟨⟨⟨h0,h1⟩,h2⟩,_⟩:=bc
    obtain ⟨v',k1,k2⟩:=aJ2 w hH ht hk hi (hg x (by simpa using h0)) (Je hg lo h1) (Je hg iN h2)
    exact ⟨v',by simp [execOp,ho,k1],k2⟩
   ·cases hc
  ·cases hc
 | nilCheck x=>
  rw [ho] at hc bc
  simp [jM] at hc;subst hc
  simp [Op.operands] at bc
  exact aJZ w ho hi (hg x bc)
 | makeFunc fn first captured=>
  rw [ho] at hc bc
  cases fn with
  | func f=>
   simp [jM] at hc;subst hc
   simp only [Op.operands,Array.all_append,and_eq_true] at bc
   simp [kn] at hi;subst hi
   have h1:=dw.zp hg (xs:=first.toList) (by simpa using bc.1)
   have h2:=dw.zp hg (xs:=captured.toList) (by simpa using bc.2)
   refine ⟨.func (.func f) (first.map g') (captured.map g'),by simp [execOp,ho,Instr.makeFunc],?_⟩
   refine .func f (by simp) (by simp) ?_ ?_
   ·have:=h1.ofList
    simpa using this
   ·have:=h2.ofList
    simpa using this
  | _=>simp [jM] at hc
 | extract x i=>
  rw [ho] at hc bc
  simp [jM] at hc;subst hc
  simp [Op.operands] at bc
  obtain ⟨v',h1,h2⟩:=aJL (P:=P) w hi (hg x bc)
  exact ⟨v',by simp [execOp,ho,h1],h2⟩
 | build t parts=>
  rw [ho] at hc bc
  simp only [jM] at hc
  simp only [Op.operands] at bc
  have hq:∀q∈parts.toList,kF q.2=true:=by
   intro q hm
   rw [Array.all_eq_true'] at bc
   exact bc q.2 (by simp;exact ⟨q.1,by simpa using hm⟩)
  split at hc
  ·rename_i fs zs ht hz
   split at hc
   ·rename_i hk
    split at hc
    ·rename_i ps Qx
     simp at hc;subst hc
     have hp:=amG hg ((placesOf P fs)[·]?) parts.toList ps Qx hq
     have fN:∀f∈fs.toList,jG P f.type=true:=by
      rw [Array.all_eq_true'] at hk
      intro f hf
      exact hk f (by simpa using hf)
     obtain ⟨v',h1,h2⟩:=aJG w ht hz fN (qs:=parts.map λ(i,x)=>(i,g' x)) (by simpa using hp) hi
     exact ⟨v',by simp [execOp,ho,h1],h2⟩
    ·cases hc
   ·cases hc
  ·rename_i n e zs ht hz
   split at hc
   ·rename_i hk
    simp at hc;subst hc
    have hp:=Uo hg (λi=>(i*P.cellsOf e,P.cellsOf e)) parts.toList hq
    obtain ⟨v',h1,h2⟩:=aJF w ht hz hk (qs:=parts.map λ(i,x)=>(i,g' x)) (by simpa using hp) hi
    exact ⟨v',by simp [execOp,ho,h1],h2⟩
   ·cases hc
  ·cases hc
 | call c=>
  rw [ho] at hc bc
  obtain ⟨callee,args,argTypes⟩:=c
  cases callee with
  | builtin b=>
   simp only [Op.operands,Call.operands,Array.empty_append] at bc
   have tu:=dw.zp hg (xs:=args.toList) (by simpa using bc)
   have fin:∀v',(∀Az,(builtin b argTypes o.type Az (args.map g')).run P w=.ok (.value v') w)->(execOp g' o).run P w=.ok (.value v') w:=by
    intro v' h
    simp [execOp,ho,resolve,invoke,h]
   cases b with
   | len=>
    simp only [jM] at hc
    split at hc
    ·rename_i x t hx vn
     obtain rfl:args=#[x]:=ext' hx
     obtain rfl:argTypes=#[t]:=ext' vn
     simp at bc
     have hr:=hg x bc
     split at hc
     ·rename_i ht
      simp at hc;subst hc
      simp only [kn,wV] at hi
      split at hi
      ·rename_i s hs
       rw [hs] at hr
       simp at hi;subst hi
       refine ⟨_,fin _ ?_,.int _ _⟩
       intro Az
       simp [builtin,Builtin.len_,run_underlying ht,hr.vP,goInt,DZ]
      ·cases hi
     ·rename_i e ht
      simp at hc;subst hc
      simp only [kn,aT] at hi
      split at hi
      ·rename_i a n c hs
       rw [hs] at hr
       simp at hi;subst hi
       refine ⟨_,fin _ ?_,.int _ _⟩
       intro Az
       generalize hy:g' x=y at hr
       cases hr <;> simp [builtin,Builtin.len_,run_underlying ht,hy,goInt]
      ·cases hi
     ·rename_i n e ht
      simp at hc;subst hc
      simp [kn] at hi;subst hi
      refine ⟨_,fin _ ?_,.int _ _⟩
      intro Az
      simp [builtin,Builtin.len_,run_underlying ht,goInt]
     ·cases hc
    ·cases hc
   | min=>
    simp [jM] at hc;subst hc
    simp only [kn,lI] at hi
    split at hi
    ·rename_i k n rest hl
     rw [hl] at tu
     generalize hy:args.toList.map g'=ys at tu
     cases tu with
     | cons h1 h2=>
      rename_i y0 ys0
      have e:=h1.kT
      subst e
      obtain ⟨k1,k2⟩:=US (P:=P) w hi h2
      refine ⟨v,fin v ?_,k2⟩
      intro Az
      simp only [builtin,Sem.run_bind,Builtin.min_,Array.toList_map,hy]
      simp at k1
      rw [k1]
      rfl
    ·cases hi
   | max=>
    simp [jM] at hc;subst hc
    simp only [kn,lI] at hi
    split at hi
    ·rename_i k n rest hl
     rw [hl] at tu
     generalize hy:args.toList.map g'=ys at tu
     cases tu with
     | cons h1 h2=>
      rename_i y0 ys0
      have e:=h1.kT
      subst e
      obtain ⟨k1,k2⟩:=US (P:=P) w hi h2
      refine ⟨v,fin v ?_,k2⟩
      intro Az
      simp only [builtin,Sem.run_bind,Builtin.max_,Array.toList_map,hy]
      simp at k1
      rw [k1]
      rfl
    ·cases hi
   | _=>simp [jM] at hc
  | value y=>
   cases y with
   | func f=>
    simp only [jM] at hc
    split at hc
    ·rename_i x c hx
     split at hc
     ·rename_i hf
      simp at hc;subst hc
      obtain rfl:args=#[x,c]:=ext' hx
      simp [Op.operands,Call.operands] at bc
      simp only [kn] at hi
      split at hi
      ·rename_i f' a b hgf
       split at hi
       ·rename_i gT
        obtain ⟨rfl,ha,hb⟩:=gT
        obtain rfl:=Array.eq_empty_of_size_eq_zero ha
        obtain rfl:=Array.eq_empty_of_size_eq_zero hb
        have h0:=hg (.func f') bc.1
        rw [hgf] at h0
        generalize hy:g' (.func f')=y at h0
        cases h0 with
        | func _ s1 s2 _ _=>
         rename_i iC mK
         obtain rfl:=Array.eq_empty_of_size_eq_zero s1.symm
         obtain rfl:=Array.eq_empty_of_size_eq_zero s2.symm
         simp only [afy] at hi
         split at hi
         ·rename_i s n hs hn
          injection hi with hi
          subst hi
          have h1:=hg x bc.2.1
          have h2:=hg c bc.2.2
          rw [hs] at h1
          rw [hn] at h2
          have e1:=h1.vP
          have e2:=h2.kT
          refine ⟨_,?_,.int _ _⟩
          obtain ⟨fn,q1,q2,q3,q4,q5⟩:=az8 hf
          have:=run_callFunc_extern (P:=P) q1 q2 q3 q4 q5 #[.string s,.int .u8 n] w
          simp [execOp,ho,resolve,Deferred.ofValue,invoke,hy,e1,e2]
          rw [this,Lib.run_indexByteString]
          rfl
         ·cases hi
       ·cases hi
      ·cases hi
     ·cases hc
    ·cases hc
   | _=>simp [jM] at hc
  | _=>simp [jM] at hc
 | _=>rw [ho] at hc;simp [jM] at hc
end
end
section
theorem ja.mono {ρ aN:bk} (h:ρ.le aN) {c:Array Value} {sh:Nat} {xs:List Value} (hc:ja ρ c sh xs):ja aN c sh xs:=by
 intro j x hj
 obtain ⟨h1,y,hy,hr⟩:=hc j x hj
 exact ⟨h1,y,hy,hr.mono h⟩
theorem oO.mono {ρ aN:bk} {w w':World} {r:RI} {o:az} (hle:ρ.le aN) (hw:w'.heap[r.cZ]?=w.heap[r.cZ]?) (h:oO ρ w r o):oO aN w' r o:=by
 cases o with
 | ro e xs=>
  obtain ⟨h1,c,t,fr,h2,h3,h4⟩:=h
  exact ⟨h1,c,t,fr,by rw [hw];exact h2,h3,h4.mono hle⟩
 | arr e xs=>
  obtain ⟨h1,h0,c,h2,h3,h4⟩:=h
  exact ⟨h1,h0,c,by rw [hw];exact h2,h3,h4.mono hle⟩
 | smap es=>
  obtain ⟨bn,clock,h1,h2,h3⟩:=h
  refine ⟨bn,clock,by rw [hw];exact h1,h2,?_⟩
  intro j k v hj
  obtain ⟨en,he,hk,hv⟩:=h3 j k v hj
  exact ⟨en,he,hk,hv.mono hle⟩
 | mU kd es=>
  obtain ⟨bn,clock,h1,h2,h3⟩:=h
  refine ⟨bn,clock,by rw [hw];exact h1,h2,?_⟩
  intro j k v hj
  obtain ⟨en,he,hk,hv⟩:=h3 j k v hj
  exact ⟨en,he,hk,hv.mono hle⟩
 | jQ g c es=>
  obtain ⟨h0,bn,h1,h2,h3⟩:=h
  refine ⟨h0,bn,by rw [hw];exact h1,h2,?_⟩
  intro j b k v hj
  obtain ⟨hg,en,he,hk,hb,hv⟩:=h3 j b k v hj
  exact ⟨hg,en,he,hk,hb,hv.mono hle⟩
 | iter m s n l=>
  obtain ⟨h0,rm,h1,h2⟩:=h
  exact ⟨h0,rm,hle _ _ h1,by rw [hw];exact h2⟩
 | loop c ls vs=>
  obtain ⟨rec,h1,h2,h3,h4,h5,h6,h7,h8⟩:=h
  exact ⟨rec,by rw [hw];exact h1,h2,h3,h4,h5,h6,h7,λt=>(h8 t).mono hle⟩
 | dead=>trivial
def bk.add (ρ:bk) (i:Nat) (r:RI):bk:=λj=>if j=i then some r else ρ j
theorem bk.vF {ρ:bk} {i:Nat} {r:RI} (h:ρ i=none):ρ.le (ρ.add i r):=by
 intro j s hj
 unfold bk.add
 split
 ·rename_i e;subst e;rw [h] at hj;cases hj
 ·exact hj
theorem bN.none {P:Program} {ρ:bk} {h:ae} {w:World} (H:bN P ρ h w):ρ h.length=none:=by
 cases hr:ρ h.length with
 | none=>rfl
 | some r=>exact absurd (H.lt hr) (Nat.lt_irrefl _)
theorem Jb {P:Program} {ρ:bk} {h:ae} {w:World} (H:bN P ρ h w) {i:Nat} {r:RI} (hi:ρ i=some r) (hl:jI h i):r.cZ<w.heap.size:=by
 obtain ⟨o,ho,hr⟩:=H.obj i r hi
 obtain ⟨o',fU,b7⟩:=hl
 rw [ho] at fU
 cases fU
 have key:∀{x:Obj},w.heap[r.cZ]?=some x->r.cZ<w.heap.size:=λh=>(Array.getElem?_eq_some_iff.1 h).1
 cases o with
 | ro e xs=>obtain ⟨_,c,_,fr,h2,_⟩:=hr;exact key h2
 | arr e xs=>obtain ⟨_,_,c,h2,_⟩:=hr;exact key h2
 | smap es=>obtain ⟨bn,clock,h1,_⟩:=hr;exact key h1
 | mU kd es=>obtain ⟨bn,clock,h1,_⟩:=hr;exact key h1
 | jQ g c es=>obtain ⟨_,bn,h1,_⟩:=hr;exact key h1
 | iter m s n l=>obtain ⟨_,rm,_,h1⟩:=hr;exact key h1
 | loop c ls vs=>obtain ⟨rec,h1,_⟩:=hr;exact key h1
 | dead=>exact absurd rfl b7
structure kJ (w:World) (b:Obj) (w':World):Prop where
 heap:w'.heap=w.heap.push b
 os:w'.os=w.os
 tape:w'.tape=w.tape
 output:w'.output=w.output
 drawn:w.drawn<=w'.drawn
theorem kJ.alloc (w:World) (b:Obj):kJ w b (w.alloc b):=⟨rfl,rfl,rfl,rfl,le_refl _⟩
theorem kJ.drew (w:World) (b:Obj):kJ w b (w.drew.alloc b):=⟨rfl,rfl,rfl,rfl,Nat.le_succ _⟩
theorem kJ.old {w w':World} {b:Obj} (n:kJ w b w') {k:Nat} (h:k<w.heap.size):w'.heap[k]?=w.heap[k]?:=by
 rw [n.heap,Array.getElem?_push,if_neg (by omega)]
theorem kJ.new {w w':World} {b:Obj} (n:kJ w b w'):w'.heap[w.heap.size]?=some b:=by
 rw [n.heap,Array.getElem?_push,if_pos rfl]
theorem kJ.size {w w':World} {b:Obj} (n:kJ w b w'):w'.heap.size=w.heap.size+1:=by
 rw [n.heap];simp
theorem bN.new {P:Program} {ρ:bk} {h h₀:ae} {w w':World} {b:Obj} {r:RI} {o:az} (H:bN P ρ h w) (nb:kJ w b w') (hb:r.cZ=w.heap.size) (he:r.esz=P.cellsOf r.elem)
  (hk:h₀.length=h.length) (hd:∀i:Nat,h₀[i]?=h[i]?∨h₀[i]?=some az.dead)
  (ho:oO (ρ.add h.length r) w' r o):bN P (ρ.add h.length r) (h₀++[o]) w'/\Tr ρ h w (ρ.add h.length r) (h₀++[o]) w':=by
 have hle:=bk.vF (r:=r) H.none
 have jF:∀i,i<h.length->fC (h₀++[o]) i->fC h i:=by
  intro i hi hm
  unfold fC at hm⊢
  rw [getElem?_append_left (by omega)] at hm
  rcases hd i with e | e <;> rw [e] at hm
  ·exact hm
  ·rcases hm with ⟨_,_,hm⟩ | ⟨_,hm⟩ | ⟨_,_,_,hm⟩ | ⟨_,_,hm⟩ | ⟨_,_,_,hm⟩ | ⟨_,_,_,_,hm⟩ <;> cases hm
 have yJ:∀i,i<h.length->jI (h₀++[o]) i->jI h i:=by
  intro i hi hm
  unfold jI at hm⊢
  rw [getElem?_append_left (by omega)] at hm
  rcases hd i with e | e <;> rw [e] at hm
  ·exact hm
  ·obtain ⟨o',h1,h2⟩:=hm;cases h1;exact absurd rfl h2
 have cZ:∀i s,ρ i=some s->jI (h₀++[o]) i->s.cZ<w.heap.size:=λi s hi hl=>Jb H hi (yJ i (H.lt hi) hl)
 constructor
 ·constructor
  ·intro i s hi
   unfold bk.add at hi
   split at hi
   ·rename_i e
    subst e
    cases hi
    refine ⟨o,?_,ho⟩
    rw [<-hk]
    simp
   ·obtain ⟨o',fU,hr⟩:=H.obj i s hi
    have aw:=H.lt hi
    rw [getElem?_append_left (by omega)]
    rcases hd i with e | e
    ·refine ⟨o',by rw [e];exact fU,?_⟩
     by_cases wJ:o'=.dead
     ·subst wJ;trivial
     ·exact hr.mono hle (nb.old (Jb H hi ⟨o',fU,wJ⟩))
    ·exact ⟨.dead,e,trivial⟩
  ·intro i j s t hi hj jv hm hl
   unfold bk.add at hi hj
   split at hi <;> split at hj
   ·omega
   ·rename_i e1 e2
    cases hi
    have:=cZ j t hj hl
    omega
   ·rename_i e1 e2
    cases hj
    have:=cZ i s hi hm.live
    omega
   ·exact H.inj i j s t hi hj jv (jF i (H.lt hi) hm) (yJ j (H.lt hj) hl)
  ·intro i s hi
   unfold bk.add at hi
   split at hi
   ·cases hi;exact he
   ·exact H.esz i s hi
 ·exact {
   ext:=hle
   len:=by simp;omega
   mo:=λi s hi=>H.lt hi
   kinds:=jF
   fresh:=by
    intro i s hi hn
    unfold bk.add at hi
    split at hi
    ·rename_i e;cases hi;exact ⟨by omega,.inl (by omega)⟩
    ·rw [hn] at hi;cases hi
   kN:=by rw [nb.size];omega
   kY:=λk fN _=>nb.old fN
   os:=nb.os
   tape:=nb.tape
   output:=nb.output
   drawn:=nb.drawn }
structure lP (w:World) (k:Nat) (b:Obj) (w':World):Prop where
 here:w'.heap[k]?=some b
 other:∀j,j≠k->w'.heap[j]?=w.heap[j]?
 size:w'.heap.size=w.heap.size
 os:w'.os=w.os
 tape:w'.tape=w.tape
 output:w'.output=w.output
 drawn:w.drawn<=w'.drawn
theorem lP.row {w:World} {g:Nat} {c:Array Value} {e:TypeId} {fr:Nat×Nat} (hg:w.heap[g]?=some (.cells c e fr)) (c':Array Value):lP w g (.cells c' e fr) (w.setRow g c') where
 here:=by simp [World.setRow,Array.getElem?_modify,hg]
 other:=by intro j hj;simp [World.setRow,Array.getElem?_modify,Ne.symm hj]
 size:=by simp [World.setRow]
 os:=rfl
 tape:=rfl
 output:=rfl
 drawn:=le_refl _
theorem bN.set {P:Program} {ρ:bk} {h:ae} {w w':World} {b:Obj} {i:Nat} {r:RI} {o:az} (H:bN P ρ h w) (hi:ρ i=some r) (hm:fC h i) (sb:lP w r.cZ b w')
  (ho:oO ρ w' r o):bN P ρ (h.set i o) w'/\Tr ρ h w ρ (h.set i o) w':=by
 have aw:=H.lt hi
 have jF:∀j,fC (h.set i o) j->fC h j:=by
  intro j hj
  by_cases e:j=i
  ·subst e;exact hm
  ·unfold fC at hj⊢
   rw [getElem?_set_ne (Ne.symm e)] at hj
   exact hj
 have yJ:∀j,jI (h.set i o) j->jI h j:=by
  intro j hj
  by_cases e:j=i
  ·subst e;exact hm.live
  ·unfold jI at hj⊢
   rw [getElem?_set_ne (Ne.symm e)] at hj
   exact hj
 constructor
 ·constructor
  ·intro j s hj
   by_cases e:j=i
   ·subst e
    rw [hi] at hj
    cases hj
    exact ⟨o,by rw [List.getElem?_set_self aw],ho⟩
   ·obtain ⟨o',fU,hr⟩:=H.obj j s hj
    refine ⟨o',by rw [getElem?_set_ne (Ne.symm e)];exact fU,?_⟩
    by_cases wJ:o'=.dead
    ·subst wJ;trivial
    ·refine hr.mono (.refl _) (sb.other _ ?_)
     intro hb
     exact e (H.inj i j r s hi hj hb.symm hm ⟨o',fU,wJ⟩).symm
  ·intro j k s t hj hk jv kk hl
   exact H.inj j k s t hj hk jv (jF j kk) (yJ k hl)
  ·exact H.esz
 ·exact {
   ext:=.refl _
   len:=by simp
   mo:=λj s hj=>H.lt hj
   kinds:=λj _ hj=>jF j hj
   fresh:=λj s h1 h2=>by rw [h1] at h2;cases h2
   kN:=by rw [sb.size];exact le_refl _
   kY:=λk _ jR=>sb.other k λe=>jR i r hi e.symm hm
   os:=sb.os
   tape:=sb.tape
   output:=sb.output
   drawn:=sb.drawn }
theorem bN.move {P:Program} {ρ:bk} {h:ae} {w w':World} {b:Obj} {i:Nat} {r:RI} {o:az} (H:bN P ρ h w) (hi:ρ i=some r) (hm:fC h i) (sb:lP w r.cZ b w')
  (ho:oO (ρ.add h.length r) w' r o):bN P (ρ.add h.length r) (h.set i .dead++[o]) w'/\Tr ρ h w (ρ.add h.length r) (h.set i .dead++[o]) w':=by
 have aw:=H.lt hi
 have hle:=bk.vF (r:=r) H.none
 have get:∀j,j<h.length->j≠i->(h.set i .dead++[o])[j]?=h[j]?:=by
  intro j hj e
  rw [getElem?_append_left (by simpa using hj),getElem?_set_ne (Ne.symm e)]
 have PL:(h.set i .dead++[o])[i]?=some .dead:=by
  rw [getElem?_append_left (by simpa using aw),List.getElem?_set_self aw]
 have jF:∀j,j<h.length->fC (h.set i .dead++[o]) j->fC h j/\j≠i:=by
  intro j hj kk
  have b7:j≠i:=by
   intro e
   subst e
   unfold fC at kk
   rw [PL] at kk
   rcases kk with ⟨_,_,h1⟩ | ⟨_,h1⟩ | ⟨_,_,_,h1⟩ | ⟨_,_,h1⟩ | ⟨_,_,_,h1⟩ | ⟨_,_,_,_,h1⟩ <;> cases h1
  refine ⟨?_,b7⟩
  unfold fC at kk⊢
  rw [get j hj b7] at kk
  exact kk
 have yJ:∀j,j<h.length->jI (h.set i .dead++[o]) j->jI h j/\j≠i:=by
  intro j hj kk
  have b7:j≠i:=by
   intro e
   subst e
   obtain ⟨o',h1,h2⟩:=kk
   rw [PL] at h1
   cases h1
   exact h2 rfl
  refine ⟨?_,b7⟩
  unfold jI at kk⊢
  rw [get j hj b7] at kk
  exact kk
 constructor
 ·constructor
  ·intro j s hj
   unfold bk.add at hj
   split at hj
   ·rename_i e
    subst e
    cases hj
    exact ⟨o,by rw [List.getElem?_append_right (by simp)];simp,ho⟩
   ·by_cases e:j=i
    ·subst e
     exact ⟨.dead,PL,trivial⟩
    ·obtain ⟨o',fU,hr⟩:=H.obj j s hj
     refine ⟨o',by rw [get j (H.lt hj) e];exact fU,?_⟩
     by_cases wJ:o'=.dead
     ·subst wJ;trivial
     ·refine hr.mono hle (sb.other _ ?_)
      intro hb
      exact e (H.inj i j r s hi hj hb.symm hm ⟨o',fU,wJ⟩).symm
  ·intro j k s t hj hk jv kk hl
   unfold bk.add at hj hk
   split at hj <;> split at hk
   ·omega
   ·cases hj
    obtain ⟨h1,h2⟩:=yJ k (H.lt hk) hl
    exact absurd (H.inj i k r t hi hk jv hm h1).symm h2
   ·cases hk
    obtain ⟨h1,h2⟩:=jF j (H.lt hj) kk
    exact absurd (H.inj j i s r hj hi jv h1 hm.live) h2
   ·exact H.inj j k s t hj hk jv (jF j (H.lt hj) kk).1 (yJ k (H.lt hk) hl).1
  ·intro j s hj
   unfold bk.add at hj
   split at hj
   ·cases hj;exact H.esz i r hi
   ·exact H.esz j s hj
 ·exact {
   ext:=hle
   len:=by simp
   mo:=λj s hj=>H.lt hj
   kinds:=λj hj kk=>(jF j hj kk).1
   fresh:=by
    intro j s hj hn
    unfold bk.add at hj
    split at hj
    ·rename_i e;cases hj;exact ⟨by omega,.inr ⟨i,r,hi,rfl,hm⟩⟩
    ·rw [hn] at hj;cases hj
   kN:=by rw [sb.size];exact le_refl _
   kY:=λk _ jR=>sb.other k λe=>jR i r hi e.symm hm
   os:=sb.os
   tape:=sb.tape
   output:=sb.output
   drawn:=sb.drawn }
end
section
inductive qM where
 | load (agg:Bool) (n:Nat) (a:Operand)
 | xS (x:Operand)
 | lookup (ok:Bool) (zero:Value) (m k:Operand)
 | IT (kd:IntKind) (ok:Bool) (zero:Value) (m k:Operand)
 | IS (g:jc) (ok:Bool) (zero:Value) (m k:Operand)
 | entry (it:Operand)
 | obj (x:Operand)
inductive np where
 | alloc (e:TypeId) (zs:List Value)
 | od (e:TypeId) (n:Nat) (zs:List Value) (parts:List (Nat×Nat×Operand))
 | make (e:TypeId) (bytes:Nat) (zs:List Value) (l c:Operand)
 | pD (g:jc)
inductive pM where
 | fl (a:np)
 | store (n:Nat) (a v:Operand)
 | box (e:TypeId) (x:Operand)
 | alloc (e:TypeId) (zs:List Value)
 | od (e:TypeId) (n:Nat) (zs:List Value) (parts:List (Nat×Nat×Operand))
 | make (e:TypeId) (bytes:Nat) (zs:List Value) (l c:Operand)
 | app (e:TypeId) (esz bytes:Nat) (s x:Operand)
 | mkMap
 | IZ (kd:IntKind)
 | pD (g:jc)
 | RN (g:jc) (m k v:Operand)
 | Pf (g:jc) (m k:Operand)
 | UI (x:Operand)
 | next (it:Operand)
 | die
 | RO (kd:IntKind) (m k v:Operand)
 | RM (m k v:Operand)
 | copy (d s:Operand)
 | O8 (k:Nat) (d s:Operand)
def bw (h:ae) (i:Nat):Option (List Value):=
 match h[i]? with
 | some (.ro _ xs)=>some xs
 | some (.arr _ xs)=>some xs
 | _=>none
def af (agg:Bool) (n:Nat) (h:ae) (a:Value):Option Value:=
 match a with
 | .pointer (some ⟨i,o,none⟩)=>(bw h i).bind λxs=>dS agg o n xs
 | _=>none
def B3:Value->Option UInt8
 | .int .u8 n=>some (UInt8.ofNat n.toNat)
 | _=>none
def fx (h:ae) (esz:Nat) (x:Value):Option (List Value):=
 match x with
 | .slice none 0 0=>some []
 | .slice (some ⟨i,o,some _⟩) n _=>
  if n=0 then some [] else (bw h i).bind λxs=>if o+n*esz<=xs.length then some ((xs.drop o).take (n*esz)) else none
 | _=>none
def ry (h:ae) (x:Value):Option Value:=(fx h 1 x).bind λcs=>(cs.mapM B3).map S
def uN (k:ByteArray):List (ByteArray×Value)->Option Value
 | []=>none
 | (k',v)::es=>if k=k' then some v else uN k es
def sJ (k:ByteArray) (v:Value):List (ByteArray×Value)->List (ByteArray×Value)
 | []=>[(k,v)]
 | (k',v')::es=>if k=k' then (k',v)::es else (k',v')::sJ k v es
def uM (k:Int):List (Int×Value)->Option Value
 | []=>none
 | (k',v)::es=>if k=k' then some v else uM k es
def sI (k:Int) (v:Value):List (Int×Value)->List (Int×Value)
 | []=>[(k,v)]
 | (k',v')::es=>if k=k' then (k',v)::es else (k',v')::sI k v es
def IC (kd:IntKind) (ok:Bool) (zero:Value) (h:ae) (m k:Value):Option Value:=
 match m,k with
 | .map (some i),.int Bd k=>
  match h[i]? with
  | some (.mU nZ es)=>if Bd=kd/\nZ=kd then some (if ok then .tuple #[(uM k es).getD zero,.bool (uM k es).isSome] else (uM k es).getD zero) else none
  | _=>none
 | _,_=>none
def A8:Value->Value->Bool
 | .int k a,.int k' b=>decide (k=k')&&decide (a=b)
 | _,_=>false
def A9:List Value->List Value->Bool
 | [],[]=>true
 | a::wo,b::bs=>A8 a b&&A9 wo bs
 | _,_=>false
def wD:Value->Value->Bool
 | .string a,.string b=>decide (bytes a=bytes b)
 | .agg wo,.agg bs=>A9 wo.toList bs.toList
 | a,b=>A8 a b
def rI (k:Value):List (Nat×Value×Value)->Option Nat
 | []=>none
 | (_,k',_)::es=>if wD k k'=true then some 0 else (rI k es).map (·+1)
def yh (k:Value) (es:List (Nat×Value×Value)):Option Value:=(rI k es).bind λj=>(es[j]?).map λe=>e.2.2
def zH (c:Nat) (k v:Value) (es:List (Nat×Value×Value)):List (Nat×Value×Value):=
 match rI k es with
 | some j=>es.modify j λe=>(e.1,k,v)
 | none=>es++[(c,k,v)]
def ya (c:Nat) (k:Value) (es:List (Nat×Value×Value)):Nat:=match rI k es with | some _=>c | none=>c+1
def yf (k:Value) (es:List (Nat×Value×Value)):List (Nat×Value×Value):=
 match rI k es with
 | some j=>es.eraseIdx j
 | none=>es
def IB (g:jc) (ok:Bool) (zero:Value) (h:ae) (m k:Value):Option Value:=
 match m with
 | .map (some i)=>
  match h[i]? with
  | some (.jQ g' _ es)=>if g'=g/\iG g k=true then some (if ok then .tuple #[(yh k es).getD zero,.bool (yh k es).isSome] else (yh k es).getD zero) else none
  | _=>none
 | _=>none
def Q3 (g:jc) (h:ae) (m k v:Value):Option ae:=
 match m with
 | .map (some i)=>
  match h[i]? with
  | some (.jQ g' c es)=>if g'=g/\iG g k=true/\fV v=true then some (h.set i (.jQ g (ya c k es) (zH c k v es))) else none
  | _=>none
 | _=>none
def Q0 (g:jc) (h:ae) (m k:Value):Option ae:=
 match m with
 | .map (some i)=>
  match h[i]? with
  | some (.jQ g' c es)=>if g'=g/\iG g k=true then some (h.set i (.jQ g c (yf k es))) else none
  | _=>none
 | _=>none
def Q5 (h:ae) (x:Value):Option (Value×ae):=
 match x with
 | .map (some i)=>
  match h[i]? with
  | some (.jQ _ c _)=>some (.pointer (some ⟨h.length,0,none⟩),h++[.iter i c [] c])
  | _=>none
 | _=>none
def Iz (h:ae) (it:Value):Option Value:=
 match it with
 | .pointer (some ⟨j,0,none⟩)=>
  match h[j]? with
  | some (.iter i _ seen last)=>
   match h[i]?,seen.getLast? with
   | some (.jQ _ c es),some b=>if c=last then (es.find? λe=>e.1==b).map λe=>.tuple #[e.2.1,e.2.2] else none
   | _,_=>none
  | _=>none
 | _=>none
def Dx:Value->Bool
 | .bool _ | .int .. | .string _ | .nilFunc | .nilIface=>true
 | .pointer none | .map none=>true
 | .slice none 0 0=>true
 | _=>false
def Cy:jc->Value
 | .int k=>.int k 0
 | .str=>.bool true
 | .ints n k=>.agg #[.int k n]
def qz (i:Nat) (x:Value):Bool:=
 Dx x||(match x with | .slice (some ⟨k,_,_⟩) _ _=>decide (k<i) | _=>false)
@[simp] theorem aMU (i : Nat) (k : IntKind) (z : Int) : qz i (.int k z) = true := rfl
@[simp] theorem aMT (i : Nat) (b : Bool) : qz i (.bool b) = true := rfl
@[simp] theorem aMW (i : Nat) (s) : qz i (.string s) = true := rfl
@[simp] theorem aMV (i : Nat) : qz i (.slice none 0 0) = true := rfl
def mO (i:Nat):az->Option Value
 | .arr e xs=>if xs.all (qz i) then some (.agg (.int .i64 e::xs).toArray) else none
 | .jQ g c es=>if c=0/\es.isEmpty=true then some (.tuple #[Cy g]) else none
 | _=>none
def vB:Value->Option Nat
 | .pointer (some ⟨i,_,none⟩)=>some i
 | .slice (some ⟨i,_,_⟩) _ _=>some i
 | .map (some i)=>some i
 | _=>none
def eB (h:ae) (x:Value):Option Value:=(vB x).bind λi=>(h[i]?).bind (mO i)
def IA (ok:Bool) (zero:Value) (h:ae) (m k:Value):Option Value:=
 match m,k with
 | .map (some i),.string k=>
  match h[i]? with
  | some (.smap es)=>some (if ok then .tuple #[(uN k es).getD zero,.bool (uN k es).isSome] else (uN k es).getD zero)
  | _=>none
 | _,_=>none
def iz (o:qM) (g:Operand->Value) (h:ae):Option Value:=
 match o with
 | .load agg n a=>af agg n h (g a)
 | .xS x=>ry h (g x)
 | .lookup ok zero m k=>IA ok zero h (g m) (g k)
 | .IT kd ok zero m k=>IC kd ok zero h (g m) (g k)
 | .IS kd ok zero m k=>IB kd ok zero h (g m) (g k)
 | .entry it=>Iz h (g it)
 | .obj x=>eB h (g x)
def sA (n:Nat) (h:ae) (a v:Value):Option ae:=
 match a with
 | .pointer (some ⟨i,o,none⟩)=>
  match h[i]? with
  | some (.arr e xs)=>if fV v/\(dL v).length=n/\o+n<=xs.length then some (h.set i (.arr e (setAt xs o (dL v)))) else none
  | _=>none
 | _=>none
def Bl (h:ae):Value:=.pointer (some ⟨h.length,0,none⟩)
def sl (e:TypeId) (i o n:Nat):Value:=.slice (some ⟨i,o,some e⟩) n n
def cR (e:TypeId) (h:ae) (x:Value):Option (Value×ae):=if fV x then some (Bl h,h++[.arr e (dL x)]) else none
def bE (zs:List Value) (n:Nat):List Value:=(List.replicate n zs).flatten
def cH (e:TypeId) (n:Nat) (zs:List Value) (h:ae) (ps:List (Nat×Nat×Value)):Option (Value×ae):=
 (jE (bE zs n) ps).map λcs=>(sl e h.length 0 n,h++[.arr e cs])
def eM (e:TypeId) (bytes:Nat) (zs:List Value) (h:ae) (l c:Value):Option (Value×ae):=
 match l,c with
 | .int _ l,.int _ c=>if 0<=l/\l<=c/\(bytes:Int)*c<=281474976710656/\c<=9223372036854775807 then some (sl e h.length 0 l.toNat,h++[.arr e (bE zs l.toNat)]) else none
 | _,_=>none
def iY:Value->Option Nat
 | .slice none 0 0=>some 0
 | .slice (some _) n _=>some n
 | _=>none
def cT (e:TypeId) (esz bytes:Nat) (h:ae) (s x:Value):Option (Value×ae):=
 match fx h esz x,iY x with
 | some news,some m=>
  match s with
  | .slice none 0 0=>
   if m=0 then some (s,h) else
   if m*bytes<=140737488355328/\m<=maxLen then some (sl e h.length 0 m,h++[.arr e news]) else none
  | .slice (some ⟨i,0,some e'⟩) n c=>
   match h[i]? with
   | some (.arr Pk xs)=>
    if e'=e/\Pk=e/\xs.length=n*esz/\(n+m)*bytes<=140737488355328/\n+m<=maxLen then
     if m=0 then some (s,h) else some (sl e h.length 0 (n+m),h.set i .dead++[.arr e (xs++news)])
    else if e'=e/\Pk=e/\m≠0/\n+m<=c/\(n+m)*esz<=xs.length then some (.slice (some ⟨i,0,some e⟩) (n+m) c,h.set i (.arr e (setAt xs (n*esz) news)))
    else none
   | _=>none
  | _=>none
 | _,_=>none
def Q2 (h:ae) (m k v:Value):Option ae:=
 match m,k with
 | .map (some i),.string k=>
  match h[i]? with
  | some (.smap es)=>some (h.set i (.smap (sJ k v es)))
  | _=>none
 | _,_=>none
def Q4 (kd:IntKind) (h:ae) (m k v:Value):Option ae:=
 match m,k with
 | .map (some i),.int Bd k=>
  match h[i]? with
  | some (.mU nZ es)=>if Bd=kd/\nZ=kd then some (h.set i (.mU kd (sI k v es))) else none
  | _=>none
 | _,_=>none
def aU (n:Nat) (h:ae) (a v:Value):Option (Value×ae):=(sA n h a v).map λh'=>(undef,h')
def cF (e:TypeId) (zs:List Value) (h:ae):Option (Value×ae):=some (Bl h,h++[.arr e zs])
def sw (h:ae) (d s:Value):Option (Value×ae):=
 match iY d,iY s,fx h 1 s with
 | some n,some m,some cs=>
  if Nat.min m n=0 then some (.int .i64 0,h) else
  match d with
  | .slice (some ⟨i,o,some _⟩) _ _=>
   match h[i]? with
   | some (.arr e xs)=>if o+Nat.min m n<=xs.length then some (.int .i64 (Nat.min m n:Nat),h.set i (.arr e (setAt xs o (cs.take (Nat.min m n))))) else none
   | _=>none
  | _=>none
 | _,_,_=>none
def rA (k:Nat) (h:ae) (d s:Value):Option (Value×ae):=
 match iY d,iY s,fx h k s with
 | some n,some m,some cs=>
  if Nat.min m n=0 then some (.int .i64 0,h) else
  match d with
  | .slice (some ⟨i,o,some _⟩) _ _=>
   match h[i]? with
   | some (.arr e xs)=>if o+Nat.min m n*k<=xs.length then some (.int .i64 (Nat.min m n:Nat),h.set i (.arr e (setAt xs o (cs.take (Nat.min m n*k))))) else none
   | _=>none
  | _=>none
 | _,_,_=>none
def iS (o:pM) (g:Operand->Value) (h:ae):Option (Value×ae):=
 match o with
 | .fl a=>match a with
  | .alloc e zs=>some (Bl h,h++[.arr e zs])
  | .od e n zs ps=>cH e n zs h (ps.map λ(o,s,x)=>(o,s,g x))
  | .make e bytes zs l c=>eM e bytes zs h (g l) (g c)
  | .pD kd=>some (.map (some h.length),h++[.jQ kd 0 []])
 | .store n a v=>(sA n h (g a) (g v)).map λh'=>(undef,h')
 | .box e x=>cR e h (g x)
 | .alloc e zs=>some (Bl h,h++[.arr e zs])
 | .od e n zs ps=>cH e n zs h (ps.map λ(o,s,x)=>(o,s,g x))
 | .make e bytes zs l c=>eM e bytes zs h (g l) (g c)
 | .app e esz bytes s x=>cT e esz bytes h (g s) (g x)
 | .mkMap=>some (.map (some h.length),h++[.smap []])
 | .RM m k v=>(Q2 h (g m) (g k) (g v)).map λh'=>(undef,h')
 | .IZ kd=>some (.map (some h.length),h++[.mU kd []])
 | .die=>none
 | .next _=>none
 | .pD kd=>some (.map (some h.length),h++[.jQ kd 0 []])
 | .RN kd m k v=>(Q3 kd h (g m) (g k) (g v)).map λh'=>(undef,h')
 | .Pf kd m k=>(Q0 kd h (g m) (g k)).map λh'=>(.tuple #[],h')
 | .UI x=>Q5 h (g x)
 | .RO kd m k v=>(Q4 kd h (g m) (g k) (g v)).map λh'=>(undef,h')
 | .copy d s=>sw h (g d) (g s)
 | .O8 k d s=>rA k h (g d) (g s)
def np.iB:np->pM
 | .alloc e zs=>.alloc e zs
 | .od e n zs ps=>.od e n zs ps
 | .make e b zs l c=>.make e b zs l c
 | .pD g=>.pD g
def pM.Kg:pM->Option np
 | .alloc e zs=>some (.alloc e zs)
 | .od e n zs ps=>some (.od e n zs ps)
 | .make e b zs l c=>some (.make e b zs l c)
 | .pD g=>some (.pD g)
 | _=>none
def mj (a:np) (g:Operand->Value):Option ((Nat->Value)×az):=
 match a with
 | .alloc e zs=>some (λi=>.pointer (some ⟨i,0,none⟩),.arr e zs)
 | .od e n zs ps=>(jE (bE zs n) (ps.map λ(o,s,x)=>(o,s,g x))).map λcs=>(λi=>sl e i 0 n,.arr e cs)
 | .make e bytes zs l c=>
  match g l,g c with
  | .int _ l,.int _ c=>if 0<=l/\l<=c/\(bytes:Int)*c<=281474976710656/\c<=9223372036854775807 then some (λi=>sl e i 0 l.toNat,.arr e (bE zs l.toNat)) else none
  | _,_=>none
 | .pD g=>some (λi=>.map (some i),.jQ g 0 [])
theorem afB (a:np) (g:Operand->Value) (h:ae):iS (.fl a) g h=(mj a g).map λp=>(p.1 h.length,h++[p.2]):=by
 cases a with
 | alloc e zs=>rfl
 | od e n zs ps=>simp only [iS,mj,cH,Option.map_map];rfl
 | make e b zs l c=>
  simp only [iS,mj,eM]
  split
  ·split <;> rfl
  ·rfl
 | pD g=>rfl
theorem aBT (a:np) (g:Operand->Value) (h:ae):iS a.iB g h=iS (.fl a) g h:=by cases a <;> rfl
theorem anU {e:pM} {a:np} (h:e.Kg=some a):a.iB=e:=by
 cases e <;> simp [pM.Kg] at h <;> subst h <;> rfl
theorem NJ {a:np} {g:Operand->Value} {V:Nat->Value} {o:az} (h:mj a g=some (V,o)):∀i,vB (V i)=some i:=by
 cases a with
 | pD g=>simp [mj] at h;obtain ⟨rfl,_⟩:=h;intro i;rfl
 | alloc e zs=>simp [mj] at h;obtain ⟨rfl,_⟩:=h;intro i;rfl
 | od e n zs ps=>simp only [mj,map_eq_some_iff,Prod.mk.injEq] at h;obtain ⟨_,_,rfl,_⟩:=h;intro i;rfl
 | make e b zs l c=>
  simp only [mj] at h
  split at h
  ·split at h
   ·simp at h;obtain ⟨rfl,_⟩:=h;intro i;rfl
   ·cases h
  ·cases h
def BG (P:Program) (t:TypeId):Option Value:=
 match P.info? t with
 | some i=>match i.zero with
  | some z=>if As z then some z else none
  | none=>none
 | none=>none
def isString (P:Program) (t:TypeId):Bool:=match P.underlying t with | some .string=>true | _=>false
def zf (P:Program) (t:TypeId):Option IntKind:=match P.underlying t with | some (.int k)=>some k | _=>none
def zZ:Value->Bool
 | .agg cs=>cs.toList.all As
 | v=>mN v
def Kr (P:Program) (t:TypeId):Option Value:=
 match P.info? t with
 | some i=>match i.zero with
  | some z=>if zZ z then some z else none
  | none=>none
 | none=>none
def qS (P:Program) (t:TypeId):Option jc:=
 match P.underlying t with
 | some (.map kt et)=>
  match P.underlying et with
  | some (.int _)=>none
  | _=>
   match P.underlying kt with
   | some .string=>some .str
   | some (.int k)=>some (.int k)
   | some (.array n e)=>
    match P.underlying e with
    | some (.int k)=>if (P.cellsOf e==1&&P.cellsOf kt==n&& !(P.types.size==0))=true then some (.ints n k) else none
    | _=>none
   | _=>none
 | _=>none
def uJ (P:Program):Op->Option qM
 | .load t a=>
  match P.underlying t with
  | some d=>if jG P t&&(oJ d||P.cellsOf t==1) then some (.load (oJ d) (P.cellsOf t) a) else none
  | none=>none
 | .entry it=>some (.entry it)
 | .convert s d x=>
  match P.underlying s,P.underlying d with
  | some (.slice e),some .string=>match P.underlying e with | some (.int .u8)=>some (.xS x) | _=>none
  | _,_=>none
 | .lookup t m k ok=>
  match qS P t with
  | some g=>match P.underlying t with
   | some (.map _ et)=>(Kr P et).map λz=>.IS g ok z m k
   | _=>none
  | none=>
  match P.underlying t with
  | some (.map kt et)=>if isString P kt then (BG P et).map λz=>.lookup ok z m k else (zf P kt).bind λkd=>(BG P et).map λz=>.IT kd ok z m k
  | _=>none
 | _=>none
def jX (P:Program):Op->Option pM
 | .store t a v=>if jG P t then some (.store (P.cellsOf t) a v) else none
 | .box e x=>some (.box e x)
 | .alloc e=>(zeroOf P e).map λzs=>.alloc e zs
 | .buildSlice t n ps=>
  match P.underlying t with
  | some (.slice e)=>
   match zeroOf P e with
   | some zs=>if n*P.cellsOf e<=16777216/\P.cellsOf e≠0 then some (.od e n zs (ps.toList.map λ(i,x)=>(i*P.cellsOf e,P.cellsOf e,x))) else none
   | none=>none
  | _=>none
 | .makeSlice t l c=>
  match P.underlying t with
  | some (.slice e)=>
   match zeroOf P e with
   | some zs=>some (.make e (P.bytesOf e) zs l c)
   | none=>none
  | _=>none
 | .call { callee:=.builtin .append,args,argTypes }=>
  match args.toList,argTypes.toList with
  | [s,x],[t,t']=>
   if t=t' then
    match P.underlying t with
    | some (.slice e)=>
     match zeroOf P e with
     | some _=>some (.app e (P.cellsOf e) (P.bytesOf e) s x)
     | none=>none
    | _=>none
   else none
  | _,_=>none
 | .makeMap t none=>
  match qS P t with
  | some g=>some (.pD g)
  | none=>
  match P.underlying t with
  | some (.map kt _)=>some (match zf P kt with | some kd=>.IZ kd | none=>.mkMap)
  | _=>some .mkMap
 | .mapUpdate t m k v | .insert t m k v=>
  match qS P t with
  | some g=>some (.RN g m k v)
  | none=>
  match P.underlying t with
  | some (.map kt _)=>if isString P kt then some (.RM m k v) else (zf P kt).map λkd=>.RO kd m k v
  | _=>none
 | .call { callee:=.builtin .delete,args,argTypes }=>
  match args.toList,argTypes[0]? with
  | [m,k],some t=>(qS P t).map λg=>.Pf g m k
  | _,_=>none
 | .call { callee:=.builtin .copy,args,argTypes }=>
  match args.toList,argTypes.toList with
  | [d,s],[t,_]=>
   match P.underlying t with
   | some (.slice e)=>if (P.info? e).map (·.size)=some 1 then some (.copy d s) else
    match P.info? e with
    | some i=>some (.O8 i.size d s)
    | none=>none
   | _=>none
  | _,_=>none
 | .range t x=>(qS P t).map λ_=>.UI x
 | .next it false=>some (.next it)
 | .panic _ | .makeInterface .. =>some .die
 | _=>none
end
section
theorem anM {ρ:bk} {i o n m:Nat} {e:TypeId} {y:Value} (h:aK ρ (.slice (some ⟨i,o,some e⟩) n m) y):
  ∃r o' c',ρ i=some r/\r.elem=e/\y=.slice (some ⟨r.cZ,o',none⟩) n c'/\(o'=r.sh+o∨(n=0/\0<o/\c'=0))/\n<=c'/\c'<=maxLen/\o'+c'*r.esz<=r.size/\(n<=m/\m<=c'):=by
 cases h with
 | slice hr a b c d ek=>exact ⟨_,_,_,hr,rfl,rfl,a,b,c,d,ek⟩
theorem aK.down {ρ aN:bk} (hle:ρ.le aN) {x y0:Value} (h0:aK ρ x y0):∀{y:Value},aK aN x y->aK ρ x y:=by
 have same:∀{i:Nat} {r r':RI},ρ i=some r->aN i=some r'->r'=r:=λh h'=>by rw [hle _ _ h] at h';cases h';rfl
 induction h0 with
 | bool b=>intro y h;cases h;exact .bool b
 | int k n=>intro y h;cases h;exact .int k n
 | string s=>intro y h;cases h;exact .string s
 | tW=>intro y h;cases h;exact .tW
 | qw=>intro y h;cases h;exact .qw
 | tV=>intro y h;cases h;exact .tV
 | nilFunc=>intro y h;cases h;exact .nilFunc
 | nilIface=>intro y h;cases h;exact .nilIface
 | ptr hi=>intro y h;cases h with | ptr iN=>cases same hi iN;exact .ptr hi
 | slice hi a b c d=>
  intro y h
  obtain ⟨r',o',c',h1,h2,rfl,h3,h4,h5,h6,h7⟩:=anM h
  cases same hi h1
  exact .slice hi h3 h4 h5 h6 h7
 | void a=>intro y h;cases h;exact .void _
 | map hi=>intro y h;cases h with | map iN=>cases same hi iN;exact .map hi
 | yield hi=>intro y h;cases h with | yield iN=>cases same hi iN;exact .yield hi
 | func f s1 s2 _ _ Rc Re=>
  intro y h
  cases h with
  | func _ t1 t2 q1 q2=>
   refine .func f t1 t2 (λk x x' e e'=>?_) (λk x x' e e'=>?_)
   ·obtain ⟨z,hz⟩:∃z,_=some z:=⟨_,getElem?_eq_getElem (by rw [<-s1];exact (Array.getElem?_eq_some_iff.1 e).1)⟩
    exact Rc k x z e hz (q1 k x x' e e')
   ·obtain ⟨z,hz⟩:∃z,_=some z:=⟨_,getElem?_eq_getElem (by rw [<-s2];exact (Array.getElem?_eq_some_iff.1 e).1)⟩
    exact Re k x z e hz (q2 k x x' e e')
 | agg s1 hc _ ih=>
  intro y h
  cases h with
  | agg t1 _ q1=>
   refine .agg t1 hc (λk x x' e e'=>?_)
   obtain ⟨z,hz⟩:∃z,_=some z:=⟨_,getElem?_eq_getElem (by rw [<-s1];exact (Array.getElem?_eq_some_iff.1 e).1)⟩
   exact ih k x z e hz (q1 k x x' e e')
 | any v=>intro y _;exact .any y
 | tuple s1 _ ih=>
  intro y h
  cases h with
  | tuple t1 q1=>
   refine .tuple t1 (λk x x' e e'=>?_)
   obtain ⟨z,hz⟩:∃z,_=some z:=⟨_,getElem?_eq_getElem (by rw [<-s1];exact (Array.getElem?_eq_some_iff.1 e).1)⟩
   exact ih k x z e hz (q1 k x x' e e')
theorem ja.down {ρ aN:bk} (hle:ρ.le aN) {c c':Array Value} {sh sh':Nat} {xs:List Value} (h0:ja ρ c sh xs) (h:ja aN c' sh' xs):ja ρ c' sh' xs:=by
 intro j x hj
 obtain ⟨_,y0,_,r0⟩:=h0 j x hj
 obtain ⟨c1,y,hy,r⟩:=h j x hj
 exact ⟨c1,y,hy,r0.down hle r⟩
theorem oO.down {ρ aN:bk} (hle:ρ.le aN) {w w':World} {r:RI} {o:az} (h0:oO ρ w r o) (h:oO aN w' r o):oO ρ w' r o:=by
 cases o with
 | ro e xs=>
  obtain ⟨_,_,_,_,_,_,b4⟩:=h0
  obtain ⟨a1,c,t,fr,a2,a3,a4⟩:=h
  exact ⟨a1,c,t,fr,a2,a3,b4.down hle a4⟩
 | arr e xs=>
  obtain ⟨_,_,_,_,_,b4⟩:=h0
  obtain ⟨a1,a0,c,a2,a3,a4⟩:=h
  exact ⟨a1,a0,c,a2,a3,b4.down hle a4⟩
 | smap es=>
  obtain ⟨_,_,_,_,b3⟩:=h0
  obtain ⟨bn,clock,a1,a2,a3⟩:=h
  refine ⟨bn,clock,a1,a2,λj k v hj=>?_⟩
  obtain ⟨_,_,_,r0⟩:=b3 j k v hj
  obtain ⟨en,e1,e2,e3⟩:=a3 j k v hj
  exact ⟨en,e1,e2,r0.down hle e3⟩
 | mU kd es=>
  obtain ⟨_,_,_,_,b3⟩:=h0
  obtain ⟨bn,clock,a1,a2,a3⟩:=h
  refine ⟨bn,clock,a1,a2,λj k v hj=>?_⟩
  obtain ⟨_,_,_,r0⟩:=b3 j k v hj
  obtain ⟨en,e1,e2,e3⟩:=a3 j k v hj
  exact ⟨en,e1,e2,r0.down hle e3⟩
 | jQ g c es=>
  obtain ⟨_,_,_,_,b3⟩:=h0
  obtain ⟨a0,bn,a1,a2,a3⟩:=h
  refine ⟨a0,bn,a1,a2,λj b k v hj=>?_⟩
  obtain ⟨_,_,_,_,_,r0⟩:=b3 j b k v hj
  obtain ⟨e0,en,e1,e2,tg,e3⟩:=a3 j b k v hj
  exact ⟨e0,en,e1,e2,tg,r0.down hle e3⟩
 | iter m s n l=>
  obtain ⟨_,rm0,b1,_⟩:=h0
  obtain ⟨a0,rm,a1,a2⟩:=h
  have:=hle _ _ b1
  rw [a1] at this
  cases this
  exact ⟨a0,rm0,b1,a2⟩
 | loop c ls vs=>
  obtain ⟨_,_,_,_,_,_,_,_,b8⟩:=h0
  obtain ⟨rec,a1,a2,a3,a4,a5,a6,a7,a8⟩:=h
  exact ⟨rec,a1,a2,a3,a4,a5,a6,a7,λt=>(b8 t).down hle (a8 t)⟩
 | dead=>trivial
theorem Dx.rel {ρ aN:bk} {v v':Value} (h:Dx v=true) (hv:aK ρ v v'):aK aN v v':=by
 unfold Dx at h
 split at h
 ·cases hv;exact .bool _
 ·cases hv;exact .int _ _
 ·cases hv;exact .string _
 ·cases hv;exact .nilFunc
 ·cases hv;exact .nilIface
 ·cases hv;exact .tW
 ·cases hv;exact .tV
 ·cases hv;exact .qw
 ·cases h
theorem bN.HQ {P:Program} {ρ:bk} {h:ae} {w:World} (H:bN P ρ h w) (os:ae):bN P ρ (h++os) w where
 obj i r hi:=by
  obtain ⟨o,ho,hr⟩:=H.obj i r hi
  exact ⟨o,by rw [getElem?_append_left (H.lt hi)];exact ho,hr⟩
 inj i j r s hi hj hb hm hl:=by
  refine H.inj i j r s hi hj hb ?_ ?_
  ·unfold fC at hm⊢;rw [getElem?_append_left (H.lt hi)] at hm;exact hm
  ·unfold jI at hl⊢;rw [getElem?_append_left (H.lt hj)] at hl;exact hl
 esz:=H.esz
theorem Tr.HQ {P:Program} {ρ:bk} {h:ae} {w:World} (H:bN P ρ h w) (os:ae):Tr ρ h w ρ (h++os) w where
 ext:=.refl _
 len:=by simp
 mo:=λ_ _ hi=>H.lt hi
 kinds:=λi hi hm=>by unfold fC at hm⊢;rw [getElem?_append_left hi] at hm;exact hm
 fresh:=λi r h1 h2=>by rw [h1] at h2;cases h2
 kN:=le_refl _
 kY:=λ_ _ _=>rfl
 os:=rfl
 tape:=rfl
 output:=rfl
 drawn:=le_refl _
theorem aBU {lo:qM} {g:Operand->Value} {h:ae} {v:Value} (os:ae) (hl:iz lo g h=some v):iz lo g (h++os)=some v:=by
 have get:∀{i:Nat} {o:az},h[i]?=some o->(h++os)[i]?=some o:=by
  intro i o hi
  rw [getElem?_append_left (cm hi).1];exact hi
 have cells:∀{i:Nat} {xs:List Value},bw h i=some xs->bw (h++os) i=some xs:=by
  intro i xs hc
  unfold bw at hc⊢
  split at hc
  ·rename_i e ys hq;rw [get hq];exact hc
  ·rename_i e ys hq;rw [get hq];exact hc
  ·cases hc
 cases lo with
 | load agg n a=>
  simp only [iz,af] at hl⊢
  split at hl
  ·rename_i i o _
   cases hc:bw h i with
   | none=>rw [hc] at hl;cases hl
   | some xs=>rw [hc] at hl;rw [cells hc];exact hl
  ·cases hl
 | xS x=>
  have sc:∀{cs:List Value},fx h 1 (g x)=some cs->fx (h++os) 1 (g x)=some cs:=by
   intro cs hc
   unfold fx at hc⊢
   split at hc
   ·exact hc
   ·rename_i i o e n c hx
    split at hc
    ·rename_i h0;rw [if_pos h0];exact hc
    ·rename_i h0
     rw [if_neg h0]
     cases uT:bw h i with
     | none=>rw [uT] at hc;cases hc
     | some xs=>rw [uT] at hc;rw [cells uT];exact hc
   ·cases hc
  simp only [iz,ry] at hl⊢
  cases hc:fx h 1 (g x) with
  | none=>rw [hc] at hl;cases hl
  | some cs=>rw [hc] at hl;rw [sc hc];exact hl
 | lookup ok z m k=>
  simp only [iz,IA] at hl⊢
  split at hl
  ·rename_i i key hm hk
   split at hl
   ·rename_i es he;rw [get he];exact hl
   ·cases hl
  ·cases hl
 | IT kd ok z m k=>
  simp only [iz,IC] at hl⊢
  split at hl
  ·rename_i i Bd key hm hk
   split at hl
   ·rename_i nZ es he;rw [get he];exact hl
   ·cases hl
  ·cases hl
 | IS gk ok z m k=>
  simp only [iz,IB] at hl⊢
  split at hl
  ·rename_i i hm
   split at hl
   ·rename_i g' c es he;rw [get he];exact hl
   ·cases hl
  ·cases hl
 | entry it=>
  simp only [iz,Iz] at hl⊢
  split at hl
  ·rename_i j hj
   split at hl
   ·rename_i i si seen last Qg
    rw [get Qg]
    simp only
    split at hl
    ·rename_i gg c es b kP hb
     rw [get kP,hb]
     exact hl
    ·cases hl
   ·cases hl
  ·cases hl
 | obj x=>
  simp only [iz,eB] at hl⊢
  cases hx:vB (g x) with
  | none=>rw [hx] at hl;cases hl
  | some i=>
   rw [hx] at hl
   simp only [Option.bind_some] at hl⊢
   cases ho:h[i]? with
   | none=>rw [ho] at hl;cases hl
   | some o=>rw [ho] at hl;rw [get ho];exact hl
end
section
section
variable {P : Program} {w : World} {ρ : bk} {h : ae}
theorem bN.cells (H:bN P ρ h w) {i:Nat} {r:RI} {xs:List Value} (hi:ρ i=some r) (hx:bw h i=some xs):
  ∃c t fr,w.heap[r.cZ]?=some (.cells c t fr)/\ja ρ c r.sh xs:=by
 obtain ⟨o,ho,hr⟩:=H.obj i r hi
 unfold bw at hx
 rw [ho] at hx
 cases o with
 | ro e ys=>
  simp at hx;subst hx
  obtain ⟨h1,c,t,fr,h2,h3,h4⟩:=hr
  exact ⟨c,t,fr,h2,h4⟩
 | arr e ys=>
  simp at hx;subst hx
  obtain ⟨h1,h0,c,h2,h3,h4⟩:=hr
  subst h1
  exact ⟨c,_,(0,0),h2,by rw [h0];exact h4⟩
 | smap es=>simp at hx
 | mU kd es=>simp at hx
 | jQ g c es=>simp at hx
 | iter m s n l=>simp at hx
 | loop c ls vs=>simp at hx
 | dead=>simp at hx
theorem ja.Vi {c:Array Value} {sh o n:Nat} {xs:List Value} (hc:ja ρ c sh xs) (hl:o+n<=xs.length):
  ∃ys:List Value,dw ρ ((xs.drop o).take n) ys/\ys.length=n/\(∀x∈(xs.drop o).take n,jx x=true)/\∀j v,ys[j]?=some v->c[sh+o+j]?=some v:=by
 have key:∀j,j<n->∃x y,((xs.drop o).take n)[j]?=some x/\c[sh+o+j]?=some y/\aK ρ x y/\jx x=true:=by
  intro j hj
  have hx:xs[o+j]?=some (xs[o+j]'(by omega)):=List.getElem?_eq_getElem _
  obtain ⟨h1,y,hy,hr⟩:=hc (o+j) _ hx
  refine ⟨_,y,?_,by rw [<-hy];congr 1;omega,hr,h1⟩
  rw [getElem?_take,if_pos hj,List.getElem?_drop]
  exact hx
 have hlen:((xs.drop o).take n).length=n:=by simp;omega
 refine ⟨(List.range n).map λj=>c.getD (sh+o+j) Go.undef,?_,by simp,?_,?_⟩
 ·refine dw.RU (by simp;omega) ?_
  intro k x y hx hy
  have hk:k<n:=by have:=(cm hx).1;omega
  obtain ⟨x',y',h1,h2,h3,_⟩:=key k hk
  rw [h1] at hx;cases hx
  simp [hk] at hy
  subst hy
  simpa [Array.getD,Array.getElem?_eq_some_iff.1 h2 |>.1,(Array.getElem?_eq_some_iff.1 h2).2] using h3
 ·intro x hx
  obtain ⟨k,hk⟩:=List.getElem?_of_mem hx
  have fN:k<n:=by have:=(cm hk).1;omega
  obtain ⟨x',y',h1,h2,h3,h4⟩:=key k fN
  rw [h1] at hk;cases hk
  exact h4
 ·intro j v hv
  by_cases hj:j<n
  ·obtain ⟨x',y',h1,h2,h3,_⟩:=key j hj
   simp [hj] at hv
   rw [h2,<-hv]
   simp [Array.getElem?_eq_some_iff.1 h2 |>.1,(Array.getElem?_eq_some_iff.1 h2).2]
  ·simp [hj] at hv
theorem Cd {g o:Nat} {c:Array Value} {t:TypeId} {fr:Nat×Nat} (hg:w.heap[g]?=some (.cells c t fr)):w.cell? ⟨g,o,none⟩=c[o]?:=by
 simp [World.cell?,hg]
theorem aJ6 {g o n:Nat} {c:Array Value} {t:TypeId} {fr:Nat×Nat} {ys:List Value} (hg:w.heap[g]?=some (.cells c t fr)) (hl:ys.length=n) (hy:∀j v,ys[j]?=some v->c[o+j]?=some v):
  (loadCells ⟨g,o,none⟩ n).run P w=.ok ys.toArray w:=by
 subst hl
 exact run_loadCells_list w _ ys λj v hj=>by rw [Addr.add_lit,Cd hg];exact hy j v hj
theorem anx (H:bN P ρ h w) {t:TypeId} {d:TypeDesc} {a a' v:Value} (ht:P.underlying t=some d) (hk:jG P t=true) (hi:af (oJ d) (P.cellsOf t) h a=some v) (ha:aK ρ a a'):
  ∃v',(Instr.loadAt t a').run P w=.ok v' w/\aK ρ v v':=by
 unfold af at hi
 split at hi
 ·rename_i i o
  obtain ⟨r,hr,rfl⟩:=ha.DO
  simp only [bind_eq_some_iff] at hi
  obtain ⟨xs,hx,hp⟩:=hi
  obtain ⟨c,_,fr,hb,hc⟩:=H.cells hr hx
  unfold dS at hp
  cases hd:oJ d
  ·rw [hd] at hp
   simp at hp
   obtain ⟨h1,y,hy,hv⟩:=hc o v hp
   refine ⟨y,?_,hv⟩
   have:w.cell? ⟨r.cZ,r.sh+o,none⟩=some y:=by rw [Cd hb,hy]
   simp [Instr.loadAt,Instr.sureAddr,loadVar,UR w ht,hd,this]
  ·rw [hd] at hp
   simp at hp
   obtain ⟨hl,rfl⟩:=hp
   obtain ⟨ys,h1,h2,h3,h4⟩:=hc.Vi hl
   refine ⟨.agg ys.toArray,?_,.FC h1 h3⟩
   simp [Instr.loadAt,Instr.sureAddr,loadVar,UR w ht,hd,qD w hk,aJ6 (P:=P) hb h2 h4]
 ·cases hi
theorem D2 (H:bN P ρ h w) {esz:Nat} {x x':Value} {cs:List Value} (hs:fx h esz x=some cs) (hx:aK ρ x x'):
  (x'=.slice none 0 0/\cs=[])∨(∃b o n c',x'=.slice (some ⟨b,o,none⟩) n c'/\iY x=some n/\cs.length=n*esz/\(∀v∈cs,jx v=true)/\
   ∃ys,dw ρ cs ys/\∀j v,ys[j]?=some v->w.cell? ⟨b,o+j,none⟩=some v):=by
 unfold fx at hs
 split at hs
 ·simp at hs;subst hs
  cases hx
  exact .inl ⟨rfl,rfl⟩
 ·rename_i i o e n c
  cases hx with
  | slice hr ho hn hc hb ek=>
   rename_i o' c' r
   split at hs
   ·rename_i h0
    simp at hs;subst hs;subst h0
    exact .inr ⟨_,_,_,_,rfl,rfl,by simp,by simp,[],.nil,by simp⟩
   ·rename_i h0
    simp only [bind_eq_some_iff] at hs
    obtain ⟨xs,hx,hl⟩:=hs
    split at hl
    ·rename_i hle
     simp at hl;subst hl
     obtain ⟨c,_,fr,rX,hc⟩:=H.cells hr hx
     obtain ⟨ys,h1,h2,h3,h4⟩:=hc.Vi hle
     have fU:o'=r.sh+o:=by
      rcases ho with ho | ⟨q1,q2,q3⟩
      ·exact ho
      ·omega
     subst fU
     refine .inr ⟨_,_,_,_,rfl,rfl,by simp;omega,h3,ys,h1,?_⟩
     intro j v hj
     rw [Cd rX]
     exact h4 j v hj
    ·cases hl
 ·cases hs
theorem ago:∀{cs:List Value} {l:List UInt8},cs.mapM B3=some l->∃ns:List Int,cs=ns.map (Value.int .u8)/\l=ns.map λn=>UInt8.ofNat n.toNat
 | [],l,h=>by simp at h;subst h;exact ⟨[],rfl,rfl⟩
 | c::cs,l,h=>by
  simp only [List.mapM_cons,Option.bind_eq_bind,bind_eq_some_iff] at h
  obtain ⟨b,hb,bs,hbs,h⟩:=h
  simp at h;subst h
  obtain ⟨ns,rfl,rfl⟩:=ago hbs
  unfold B3 at hb
  split at hb
  ·rename_i n
   simp at hb;subst hb
   exact ⟨n::ns,rfl,rfl⟩
  ·cases hb
theorem dw.ints {ns:List Int} {k:IntKind} {ys:List Value} (h:dw ρ (ns.map (Value.int k)) ys):ys=ns.map (Value.int k):=by
 induction ns generalizing ys with
 | nil=>cases h;rfl
 | cons n ns ih=>
  cases h with
  | cons a b=>rw [a.kT,ih b];rfl
theorem aDC (ns:List Int):∀(s:ByteArray),ns.foldl (λr n=>r.push (UInt8.ofNat n.toNat)) s=⟨(bytes s++ns.map λn=>UInt8.ofNat n.toNat).toArray⟩:=by
 induction ns with
 | nil=>intro s;simp [RL]
 | cons n ns ih=>
  intro s
  rw [List.foldl_cons,ih]
  simp [bytes]
theorem aJD (H:bN P ρ h w) {x x' v:Value} (hi:ry h x=some v) (hx:aK ρ x x'):(Conv.bytesToString x').run P w=.ok v w/\aK ρ v v:=by
 unfold ry at hi
 simp only [bind_eq_some_iff,map_eq_some_iff] at hi
 obtain ⟨cs,hs,l,hl,rfl⟩:=hi
 refine ⟨?_,aK.S _ _⟩
 obtain ⟨ns,rfl,rfl⟩:=ago hl
 rcases D2 H hs hx with ⟨rfl,h0⟩ | ⟨b,o,n,c',rfl,_,hlen,_,ys,hy,tA⟩
 ·have:ns=[]:=by simpa using h0
  subst this
  simp [Conv.bytesToString,S]
  rfl
 ·have e:=hy.ints
  subst e
  simp at hlen
  have hld:(loadCells ⟨b,o,none⟩ n).run P w=.ok (ns.map (Value.int .u8)).toArray w:=by
   have:=run_loadCells_list (P:=P) w ⟨b,o,none⟩ (ns.map (Value.int .u8)) (λj v hj=>by rw [Addr.add_lit];exact tA j v hj)
   simpa [hlen] using this
  rw [run_bytesToString w _ n c' ns hld,aDC]
  rfl
end
end
section
theorem afH {a b:Value} (h:A8 a b=true):a=b:=by
 unfold A8 at h
 split at h
 ·simp only [and_eq_true,decide_eq_true_eq] at h;rw [h.1,h.2]
 ·cases h
theorem afJ:∀{a b:List Value},A9 a b=true->a=b
 | [],[],_=>rfl
 | a::wo,b::bs,h=>by
  simp only [A9,and_eq_true] at h
  rw [afH h.1,afJ h.2]
 | [],_::_,h=>by cases h
 | _::_,[],h=>by cases h
theorem afK {k:IntKind}:∀{a:List Value},(∀v∈a,nY k v=true)->A9 a a=true
 | [],_=>rfl
 | a::wo,h=>by
  simp only [A9,and_eq_true]
  refine ⟨?_,afK λv hv=>h v (by simp [hv])⟩
  have:=h a (by simp)
  unfold nY at this
  split at this
  ·simp [A8]
  ·cases this
theorem ad0 {a b:Value} (h:wD a b=true):a=b:=by
 unfold wD at h
 split at h
 ·rename_i s t
  simp at h
  have:=RL s
  rw [h,RL] at this
  rw [this]
 ·rw [ext' (afJ h)]
 ·exact afH h
theorem aAu {g:jc} {a:Value} (h:iG g a=true):wD a a=true:=by
 unfold iG at h
 split at h
 ·unfold nY at h
  split at h
  ·simp [wD,A8]
  ·cases h
 ·simp [wD]
 ·simp only [and_eq_true,all_eq_true] at h
  exact afK λv hv=>(h.2 v hv).1
 ·cases h
theorem aAt {g:jc} {a b:Value} (h:iG g a=true):wD a b=true↔a=b:=⟨ad0,λe=>e ▸ aAu h⟩
theorem JJ {g:jc} {k:Value} (hk:iG g k=true):∀es:List (Nat×Value×Value),(rI k es=none/\∀e∈es,e.2.1≠k)∨∃j e,rI k es=some j/\es[j]?=some e/\e.2.1=k
 | []=>.inl ⟨rfl,by simp⟩
 | (b,k',v)::es=>by
  simp only [rI]
  by_cases h:wD k k'=true
  ·rw [if_pos h]
   exact .inr ⟨0,(b,k',v),rfl,rfl,(ad0 h).symm⟩
  ·rw [if_neg h]
   rcases JJ hk es with ⟨h1,h2⟩ | ⟨j,e,h1,h2,h3⟩
   ·refine .inl ⟨by rw [h1];rfl,?_⟩
    intro e he
    rcases List.mem_cons.1 he with rfl | he
    ·intro e'
     exact h ((aAt hk).2 e'.symm)
    ·exact h2 e he
   ·exact .inr ⟨j+1,e,by rw [h1];rfl,by simpa using h2,h3⟩
structure EI (P:Program) (kt:TypeId) (g:jc):Prop where
 check:∀(w:World) (em:Bool) (v:Value),iG g v=true->(Instr.checkKey em 10000 kt v).run P w=.ok () w
 find:∀(w:World) (x:Value),iG g x=true->∀es:List MapEntry,(∀e∈es,iG g e.key=true)->
  ((Instr.findKey kt x es).run P w=.ok none w/\∀e∈es,e.key≠x)∨∃j e,(Instr.findKey kt x es).run P w=.ok (some (j,e.val)) w/\es[j]?=some e/\e.key=x
 stays:∀(w:World) (v:Value),iG g v=true->(Instr.keyThatStays v v).run P w=.ok v w
theorem amI {P:Program} {kt:TypeId} {g:jc} {d:TypeDesc} (hd:P.underlying kt=some d) (hg:∀v,iG g v=true->MapKept.IsKey d v):EI P kt g where
 check w em v hv:=MapKept.run_checkKey hd (hg v hv) em 9999
 find w x hx es kP:=by
  rcases MapKept.findNow_spec (hg x hx) es 0 (λe he=>hg _ (kP e he)) with ⟨h1,h2⟩ | ⟨j,e,h1,h2,h3⟩
  ·exact .inl ⟨MapKept.run_findKey hd h1,h2⟩
  ·exact .inr ⟨j,e,by simpa using MapKept.run_findKey hd h1,h2,h3⟩
 stays w v hv:=MapKept.run_keyThatStays (hg v hv)
section
variable {P : Program}
theorem afL {k:IntKind} {e:TypeId} {D:Nat} (he:P.underlying e=some (.int k)) (hc:P.cellsOf e=1) (cs:List Value) (h:∀v∈cs,(nY k v&&Rj k v)=true):
  ∀m,m<=cs.length->∃ls,((List.range m).mapM λi=>P.keyLits (D+1) e ((cs.drop (i*P.cellsOf e)).take (P.cellsOf e)))=some ls
 | 0,_=>⟨[],rfl⟩
 | m+1,hm=>by
  obtain ⟨ls,Qo⟩:=afL he hc cs h m (by omega)
  have tL:m<cs.length:=by omega
  have hv:=h cs[m] (List.getElem_mem tL)
  rw [and_eq_true] at hv
  have h1:(cs.drop (m*P.cellsOf e)).take (P.cellsOf e)=[cs[m]]:=by
   rw [hc,Nat.mul_one]
   apply List.ext_getElem?
   intro i
   rw [getElem?_take]
   cases i with
   | zero=>simp [tL]
   | succ i=>simp
  generalize cs[m]=v at hv h1
  obtain ⟨k',n,rfl⟩:∃k' n,v=.int k' n:=by
   cases v <;> first | exact ⟨_,_,rfl⟩ | simp [nY] at hv
  have hk:k'=k:=by simpa [nY] using hv.1
  subst hk
  have hr:k'.min<=n/\n<=k'.max:=by simpa [Rj] using hv.2
  have hw:(Lit.int k' n).wf=true:=by simp [Lit.wf,hr]
  refine ⟨ls++[[.int k' n]],?_⟩
  rw [List.range_succ,List.mapM_append,Qo]
  simp [h1,Program.keyLits,he,hw]
theorem aB1 {kt e:TypeId} {n:Nat} {k:IntKind} (hu:P.underlying kt=some (.array n e)) (he:P.underlying e=some (.int k)) (oz:P.cellsOf e=1) (P1:P.cellsOf kt=n) (nH:P.types.size≠0):EI P kt (.ints n k):=by
 have A:WideMaps.ArrKey P kt e n:=⟨hu,by simp [Program.plainKey,he],oz,P1⟩
 have key:∀v,iG (.ints n k) v=true->∃l,keyOf P kt v=some l:=by
  intro v hv
  cases v <;> simp [iG] at hv
  rename_i cs
  obtain ⟨h1,h2⟩:=hv
  have hkt:=A.keyType ⟨P.types.size-1,by omega⟩
  obtain ⟨D,hD⟩:∃D,P.types.size=D+1:=⟨P.types.size-1,by omega⟩
  obtain ⟨ls,Qo⟩:=afL (D:=D) he oz cs.toList (λv hv=>by obtain ⟨i,hi,e⟩:=List.mem_iff_getElem.1 hv;have:=h2 i (by simpa using hi);rw [<-e];simpa using this) n (by simp [h1])
  refine ⟨.string (keyBytes ls.flatten),?_⟩
  unfold keyOf
  rw [hu]
  have hf:(Value.agg cs).formed P kt=true:=by simp [Value.formed,hu,P1,h1]
  simp only [hkt,hf,Bool.and_self,if_true]
  unfold Program.keyLits
  rw [hu]
  have hl:(Value.agg cs).cells.toList.length=P.cellsOf kt:=by simp [Value.cells,P1,h1]
  simp only [hl,if_true,hD]
  have:(Value.agg cs).cells.toList=cs.toList:=rfl
  rw [this,Qo]
  rfl
 have K:=A.law
 exact {
  check:=λw em v hv=>let ⟨l,hl⟩:=key v hv;K.check w em hl
  find:=λw x hx es kP=>let ⟨l,hl⟩:=key x hx;K.find w hl es λe he=>key _ (kP e he)
  stays:=λw v hv=>let ⟨l,hl⟩:=key v hv;K.stays w hl }
theorem HS {t:TypeId} {g:jc} (h:qS P t=some g):∃kt et,P.underlying t=some (.map kt et)/\EI P kt g:=by
 unfold qS at h
 split at h
 ·rename_i kt et ht
  refine ⟨kt,et,ht,?_⟩
  split at h
  ·cases h
  ·split at h
   ·rename_i hk
    simp at h;subst h
    exact amI hk λv hv=>by cases v <;> simp [iG] at hv;trivial
   ·rename_i k hk
    simp at h;subst h
    exact amI hk λv hv=>by cases v <;> simp [iG,nY] at hv;exact hv
   ·rename_i n e hk
    split at h
    ·rename_i k he
     split at h
     ·rename_i hc
      simp at h;subst h
      simp at hc
      exact aB1 hk he hc.1.1 hc.1.2 (by rw [Ne,Array.size_eq_zero_iff];exact hc.2)
     ·cases h
    ·cases h
   ·cases h
 ·cases h
end
section
variable {P : Program} {w : World} {ρ : bk} {h : ae}
structure rP (ρ:bk) (g:jc) (es:List (Nat×Value×Value)) (bn:Array MapEntry):Prop where
 size:bn.size=es.length
 nodup:(es.map λe=>e.2.1).Nodup
 get:∀(j b:Nat) (k v:Value),es[j]?=some (b,k,v)->iG g k=true/\∃en,bn[j]?=some en/\en.key=k/\en.born=b/\aK ρ v en.val
theorem bN.Cr (H:bN P ρ h w) {i:Nat} {r:RI} {g:jc} {c:Nat} {es:List (Nat×Value×Value)} (hi:ρ i=some r) (he:h[i]?=some (.jQ g c es)):
  ∃bn,w.heap[r.cZ]?=some (.map bn c)/\rP ρ g es bn:=by
 obtain ⟨o,ho,hr⟩:=H.obj i r hi
 rw [he] at ho
 cases ho
 obtain ⟨h0,bn,h1,h2,h3⟩:=hr
 exact ⟨bn,h1,h2,h0,h3⟩
theorem rP.inv {g:jc} {es:List (Nat×Value×Value)} {bn:Array MapEntry} (E:rP ρ g es bn) {j:Nat} {en:MapEntry} (hj:bn[j]?=some en):∃v,es[j]?=some (en.born,en.key,v)/\iG g en.key=true/\aK ρ v en.val:=by
 have aw:j<es.length:=by rw [<-E.size];exact (Array.getElem?_eq_some_iff.1 hj).1
 obtain ⟨b,k,v⟩:Nat×Value×Value:=es[j]
 have kP:=List.getElem?_eq_getElem aw
 generalize he:es[j]=x at kP
 obtain ⟨b,k,v⟩:=x
 obtain ⟨g1,en',g2,g3,g4,g5⟩:=E.get j b k v kP
 rw [hj] at g2
 cases g2
 subst g3;subst g4
 exact ⟨v,kP,g1,g5⟩
theorem UO {g:jc} {kt:TypeId} {es:List (Nat×Value×Value)} {bn:Array MapEntry} (L:EI P kt g) (E:rP ρ g es bn) {k:Value} (hk:iG g k=true):
  ((rI k es=none/\(∀e∈es,e.2.1≠k))/\(Instr.findKey kt k bn.toList).run P w=.ok none w)∨
  ∃j b v en,rI k es=some j/\es[j]?=some (b,k,v)/\bn[j]?=some en/\en.key=k/\en.born=b/\aK ρ v en.val/\(Instr.findKey kt k bn.toList).run P w=.ok (some (j,en.val)) w:=by
 have gU:∀e∈bn.toList,iG g e.key=true:=by
  intro e he
  obtain ⟨j,hj,e'⟩:=List.mem_iff_getElem.1 he
  have:bn[j]?=some e:=by
   rw [<-getElem?_toList,List.getElem?_eq_getElem hj,e']
  exact (E.inv this).choose_spec.2.1
 rcases L.find w k hk bn.toList gU with ⟨h1,h2⟩ | ⟨j,en,h1,h2,h3⟩
 ·rcases JJ hk es with ⟨p1,p2⟩ | ⟨j,e,p1,p2,p3⟩
  ·exact .inl ⟨⟨p1,p2⟩,h1⟩
  ·exfalso
   obtain ⟨b,k',v⟩:=e
   obtain ⟨_,en,q1,q2,_⟩:=E.get j b k' v p2
   have hm:en∈bn.toList:=by
    rw [<-getElem?_toList] at q1
    exact mem_of_getElem? q1
   exact h2 en hm (q2.trans p3)
 ·have h2':bn[j]?=some en:=by rw [<-getElem?_toList];exact h2
  obtain ⟨v,q1,q2,q3⟩:=E.inv h2'
  rcases JJ hk es with ⟨p1,p2⟩ | ⟨j',e,p1,p2,p3⟩
  ·exact absurd h3 (p2 _ (mem_of_getElem? q1))
  ·have hj:j'=j:=by
    have hn:=List.pairwise_iff_getElem.1 E.nodup
    have l1:j<es.length:=(cm q1).1
    have l2:j'<es.length:=(cm p2).1
    have k1:(es.map λe=>e.2.1)[j]'(by simpa using l1)=k:=by
     have:=(cm q1).2
     simp [this,h3]
    have k2:(es.map λe=>e.2.1)[j']'(by simpa using l2)=k:=by
     have:=(cm p2).2
     simp [this,p3]
    rcases Nat.lt_trichotomy j j' with aw | heq | aw
    ·exact absurd (k1.trans k2.symm) (hn j j' _ _ aw)
    ·exact heq.symm
    ·exact absurd (k2.trans k1.symm) (hn j' j _ _ aw)
   subst hj
   exact .inr ⟨_,_,v,en,p1,by rw [q1,h3],h2',h3,rfl,q3,h1⟩
theorem zZ.rel {z:Value} (h:zZ z=true):aK ρ z z:=by
 unfold zZ at h
 split at h
 ·rename_i cs
  rw [all_eq_true] at h
  have cl:∀x∈cs.toList,mN x=true/\jx x=true:=λx hx=>by have:=h x hx;simpa [As] using this
  refine .agg rfl (λx hx=>(cl x hx).2) (λk x x' hx dN=>?_)
  rw [hx] at dN
  cases dN
  exact mN.rel (cl x (by rw [<-getElem?_toList] at hx;exact mem_of_getElem? hx)).1
 ·exact mN.rel h
theorem aJK (H:bN P ρ h w) {it it' v:Value} (hi:Iz h it=some v) (hv:aK ρ it it'):∃v',(Instr.entry it').run P w=.ok v' w/\aK ρ v v':=by
 unfold Iz at hi
 split at hi
 ·rename_i j
  split at hi
  ·rename_i i J1 seen last Qg
   split at hi
   ·rename_i g c es b kP hb
    split at hi
    ·rename_i gP
     subst gP
     cases hv with
     | ptr hr=>
      rename_i r
      obtain ⟨o,ho,yQ⟩:=H.obj j r hr
      rw [Qg] at ho
      cases ho
      obtain ⟨hsh,rm,hrm,rX⟩:=yQ
      obtain ⟨bn,hm,E⟩:=H.Cr hrm kP
      rw [hsh]
      rw [map_eq_some_iff] at hi
      obtain ⟨e,he,rfl⟩:=hi
      have aAQ:∃en,bn.find? (λx=>x.born==b)=some en/\en.key=e.2.1/\iG g e.2.1=true/\aK ρ e.2.2 en.val:=by
       rw [<-Array.find?_toList]
       have key:∀(l1:List (Nat×Value×Value)) (l2:List MapEntry),l2.length=l1.length->(∀(j b:Nat) (k v:Value),l1[j]?=some (b,k,v)->iG g k=true/\∃en,l2[j]?=some en/\en.key=k/\en.born=b/\aK ρ v en.val)->
         l1.find? (λx=>x.1==b)=some e->∃en,l2.find? (λx=>x.born==b)=some en/\en.key=e.2.1/\iG g e.2.1=true/\aK ρ e.2.2 en.val:=by
        intro l1
        induction l1 with
        | nil=>intro l2 _ _ h;simp at h
        | cons x l1 ih=>
         intro l2 hl gU hf
         obtain ⟨bx,kx,vx⟩:=x
         cases l2 with
         | nil=>simp at hl
         | cons y l2=>
          obtain ⟨g1,en,g2,g3,g4,g5⟩:=gU 0 bx kx vx rfl
          simp at g2
          subst g2
          rw [List.find?_cons] at hf⊢
          by_cases AM:(bx==b)=true
          ·simp only [AM] at hf
           cases hf
           rw [g4]
           simp only [AM]
           exact ⟨y,rfl,g3,g1,g5⟩
          ·have AM:(bx==b)=false:=by simpa using AM
           simp only [AM] at hf
           rw [g4]
           simp only [AM]
           exact ih l2 (by simpa using hl) (λj b k v hj=>by simpa using gU (j+1) b k v (by simpa using hj)) hf
       exact key es bn.toList (by simp [E.size]) (λj b k v hj=>by simpa using E.get j b k v hj) he
      obtain ⟨en,f1,f2,f3,f4⟩:=aAQ
      have dE:(getObj r.cZ).run P w=.ok (.mapIter (some rm.cZ) J1 seen.toArray c) w:=by simp [getObj,Sem.run,rX]
      have aAU:(getObj rm.cZ).run P w=.ok (.map bn c) w:=by simp [getObj,Sem.run,hm]
      have yu:seen.toArray.back?=some b:=by simpa using hb
      refine ⟨.tuple #[en.key,en.val],?_,?_⟩
      ·unfold Instr.entry
       simp [dE,aAU,hb,f1]
      ·rw [f2]
       have hkr:aK ρ e.2.1 e.2.1:=by
        have ints:∀{kd:IntKind} {v:Value},nY kd v=true->aK ρ v v/\jx v=true:=by
         intro kd v hv
         cases v <;> simp [nY] at hv
         exact ⟨.int _ _,rfl⟩
        cases aeU:e.2.1 with
        | int kd n=>exact .int _ _
        | string s=>exact .string _
        | agg cs=>
         rw [aeU] at f3
         cases g with
         | ints n kd=>
          simp only [iG,and_eq_true,all_eq_true] at f3
          refine .agg rfl (λx hx=>(ints (f3.2 x hx).1).2) (λk x x' hx dN=>?_)
          rw [hx] at dN
          cases dN
          exact (ints (f3.2 x (by rw [<-getElem?_toList] at hx;exact mem_of_getElem? hx)).1).1
         | int _=>simp [iG,nY] at f3
         | str=>simp [iG] at f3
        | _=>rw [aeU] at f3;cases g <;> simp [iG,nY] at f3
       exact aK.vQ (.cons hkr (.cons f4 .nil))
    ·cases hi
   ·cases hi
  ·cases hi
 ·cases hi
theorem aMf {t:TypeId} {z:Value} (hz:Kr P t=some z):(∀w,(zeroValue t).run P w=.ok z w)/\zZ z=true:=by
 unfold Kr at hz
 split at hz
 ·rename_i i hi
  split at hz
  ·rename_i z' yW
   split at hz
   ·rename_i hc
    simp at hz;subst hz
    exact ⟨λw=>zG w hi yW,hc⟩
   ·cases hz
  ·cases hz
 ·cases hz
theorem aK.key {g:jc} {k k':Value} (hk:iG g k=true) (h:aK ρ k k'):k'=k:=by
 have ints:∀{kd:IntKind} {v v':Value},nY kd v=true->aK ρ v v'->v'=v:=by
  intro kd v v' hv hr
  cases hr <;> first | rfl | simp [nY] at hv
 cases h with
 | int=>rfl
 | string=>rfl
 | agg hs _ gU=>
  rename_i xs iC _
  cases g with
  | ints n kd=>
   simp only [iG,and_eq_true,all_eq_true] at hk
   congr 1
   apply Array.ext
   ·exact hs.symm
   ·intro i h1 h2
    exact ints (hk.2 xs[i] (by simp)).1 (gU i _ _ (getElem?_eq_getElem h2) (getElem?_eq_getElem h1))
  | int _=>simp [iG,nY] at hk
  | str=>simp [iG] at hk
 | _=>cases g <;> simp [iG,nY] at hk
theorem aJS (H:bN P ρ h w) {t kt et:TypeId} {g:jc} {ok:Bool} {z m m' k k' v:Value} (hg:qS P t=some g) (ht:P.underlying t=some (.map kt et)) (hz:Kr P et=some z)
  (hi:IB g ok z h m k=some v) (hm:aK ρ m m') (qh:aK ρ k k'):∃v',(Instr.lookup t m' k' ok).run P w=.ok v' w/\aK ρ v v':=by
 obtain ⟨kt',et',Dc,L⟩:=HS hg
 rw [ht] at Dc
 cases Dc
 unfold IB at hi
 split at hi
 ·rename_i i
  cases hm with
  | map hr=>
   rename_i r
   split at hi
   ·rename_i g' c es he
    split at hi
    ·rename_i px
     obtain ⟨rfl,hk⟩:=px
     rw [qh.key hk]
     have ant:∀{bn:Array MapEntry} {clock:Nat},w.heap[r.cZ]?=some (.map bn clock)->(getObj r.cZ).run P w=.ok (.map bn clock) w:=by
      intro bn clock hb
      simp [getObj,Sem.run,hb]
     obtain ⟨bn,hb,E⟩:=H.Cr hr he
     obtain ⟨pU,oF⟩:=aMf hz
     rcases UO (w:=w) L E hk with ⟨⟨e1,_⟩,e2⟩ | ⟨j,b,u,en,e1,e2,e3,e4,e5,e6,e7⟩
     ·have:yh k es=none:=by simp [yh,e1]
      rw [this] at hi
      simp at hi
      have gQ:(Instr.lookup t (.map (some r.cZ)) k ok).run P w=.ok (if ok then .tuple #[z,.bool false] else z) w:=by
       simp [Instr.lookup,run_underlying ht,ant hb,L.check w _ k hk,e2,pU]
      refine ⟨_,gQ,?_⟩
      subst hi
      cases ok
      ·exact zZ.rel oF
      ·exact aK.vQ (.cons (zZ.rel oF) (.cons (.bool _) .nil))
     ·have:yh k es=some u:=by simp [yh,e1,e2]
      rw [this] at hi
      simp at hi
      have gQ:(Instr.lookup t (.map (some r.cZ)) k ok).run P w=.ok (if ok then .tuple #[en.val,.bool true] else en.val) w:=by
       simp [Instr.lookup,run_underlying ht,ant hb,L.check w _ k hk,e7]
      refine ⟨_,gQ,?_⟩
      subst hi
      cases ok
      ·exact e6
      ·exact aK.vQ (.cons e6 (.cons (.bool _) .nil))
    ·cases hi
   ·cases hi
 ·cases hi
end
end
section
inductive oX (ρ:bk):List (ByteArray×Value)->List MapEntry->Prop
 | nil:oX ρ [] []
 | cons {k:ByteArray} {v:Value} {en:MapEntry} {es:List (ByteArray×Value)} {bn:List MapEntry}:en.key=.string k->aK ρ v en.val->oX ρ es bn->oX ρ ((k,v)::es) (en::bn)
theorem oX.of {ρ:bk}:∀{es:List (ByteArray×Value)} {bn:List MapEntry},bn.length=es.length->
  (∀(j:Nat) (k:ByteArray) (v:Value),es[j]?=some (k,v)->∃en,bn[j]?=some en/\en.key=.string k/\aK ρ v en.val)->oX ρ es bn
 | [],[],_,_=>.nil
 | (k,v)::es,en::bn,hl,h=>by
  obtain ⟨en',h1,h2,h3⟩:=h 0 k v rfl
  simp at h1;subst h1
  exact .cons h2 h3 (oX.of (by simpa using hl) λj k' v' hj=>by simpa using h (j+1) k' v' (by simpa using hj))
theorem oX.to {ρ:bk} {es:List (ByteArray×Value)} {bn:List MapEntry} (h:oX ρ es bn):
  bn.length=es.length/\∀(j:Nat) (k:ByteArray) (v:Value),es[j]?=some (k,v)->∃en,bn[j]?=some en/\en.key=.string k/\aK ρ v en.val:=by
 induction h with
 | nil=>exact ⟨rfl,λj k v hj=>by simp at hj⟩
 | cons h1 h2 _ ih=>
  refine ⟨by simp [ih.1],?_⟩
  intro j k v hj
  cases j with
  | zero=>simp at hj;obtain ⟨rfl,rfl⟩:=hj;exact ⟨_,rfl,h1,h2⟩
  | succ j=>simp at hj;simpa using ih.2 j k v hj
theorem aAc {ρ:bk} {es:List (ByteArray×Value)} {bn:List MapEntry} (h:oX ρ es bn) (k:ByteArray):∀i:Nat,
  (uN k es=none/\Instr.findNow .string (.string k) bn i=some none)∨
  (∃v v' j,uN k es=some v/\Instr.findNow .string (.string k) bn i=some (some (i+j,v'))/\aK ρ v v'/\(∃en,bn[j]?=some en/\en.key=.string k)):=by
 induction h with
 | nil=>intro i;exact .inl ⟨rfl,rfl⟩
 | cons h1 h2 _ ih=>
  rename_i k0 v0 en es bn _
  intro i
  by_cases hk:k=k0
  ·subst hk
   refine .inr ⟨v0,en.val,0,by simp [uN],?_,h2,en,rfl,h1⟩
   have hb:(k==k)=true:=(MapKept.bytes_beq k k).2 rfl
   simp [Instr.findNow,h1,Instr.sameNow,hb]
  ·have hb:(k==k0)=false:=by
    rw [Bool.eq_false_iff]
    exact λe=>hk ((MapKept.bytes_beq k k0).1 e)
   rcases ih (i+1) with ⟨e1,e2⟩ | ⟨v,v',j,e1,e2,e3,e4⟩
   ·refine .inl ⟨by simp [uN,hk,e1],?_⟩
    simp [Instr.findNow,h1,Instr.sameNow,hb,e2]
   ·refine .inr ⟨v,v',j+1,by simp [uN,hk,e1],?_,e3,?_⟩
    ·simp [Instr.findNow,h1,Instr.sameNow,hb,e2];omega
    ·simpa using e4
inductive oY (kd:IntKind) (ρ:bk):List (Int×Value)->List MapEntry->Prop
 | nil:oY kd ρ [] []
 | cons {k:Int} {v:Value} {en:MapEntry} {es:List (Int×Value)} {bn:List MapEntry}:en.key=.int kd k->aK ρ v en.val->oY kd ρ es bn->oY kd ρ ((k,v)::es) (en::bn)
theorem oY.of {kd:IntKind} {ρ:bk}:∀{es:List (Int×Value)} {bn:List MapEntry},bn.length=es.length->
  (∀(j:Nat) (k:Int) (v:Value),es[j]?=some (k,v)->∃en,bn[j]?=some en/\en.key=.int kd k/\aK ρ v en.val)->oY kd ρ es bn
 | [],[],_,_=>.nil
 | (k,v)::es,en::bn,hl,h=>by
  obtain ⟨en',h1,h2,h3⟩:=h 0 k v rfl
  simp at h1;subst h1
  exact .cons h2 h3 (oY.of (by simpa using hl) λj k' v' hj=>by simpa using h (j+1) k' v' (by simpa using hj))
theorem oY.to {kd:IntKind} {ρ:bk} {es:List (Int×Value)} {bn:List MapEntry} (h:oY kd ρ es bn):
  bn.length=es.length/\∀(j:Nat) (k:Int) (v:Value),es[j]?=some (k,v)->∃en,bn[j]?=some en/\en.key=.int kd k/\aK ρ v en.val:=by
 induction h with
 | nil=>exact ⟨rfl,λj k v hj=>by simp at hj⟩
 | cons h1 h2 _ ih=>
  refine ⟨by simp [ih.1],?_⟩
  intro j k v hj
  cases j with
  | zero=>simp at hj;obtain ⟨rfl,rfl⟩:=hj;exact ⟨_,rfl,h1,h2⟩
  | succ j=>simp at hj;simpa using ih.2 j k v hj
theorem aAd {kd:IntKind} {ρ:bk} {es:List (Int×Value)} {bn:List MapEntry} (h:oY kd ρ es bn) (k:Int):∀i:Nat,
  (uM k es=none/\Instr.findNow (.int kd) (.int kd k) bn i=some none)∨
  (∃v v' j,uM k es=some v/\Instr.findNow (.int kd) (.int kd k) bn i=some (some (i+j,v'))/\aK ρ v v'/\(∃en,bn[j]?=some en/\en.key=.int kd k)):=by
 induction h with
 | nil=>intro i;exact .inl ⟨rfl,rfl⟩
 | cons h1 h2 _ ih=>
  rename_i k0 v0 en es bn _
  intro i
  by_cases hk:k=k0
  ·subst hk
   refine .inr ⟨v0,en.val,0,by simp [uM],?_,h2,en,rfl,h1⟩
   have hb:(k==k)=true:=beq_self_eq_true k
   simp [Instr.findNow,h1,Instr.sameNow]
  ·have hb:(k==k0)=false:=by
    exact beq_false_of_ne hk
   rcases ih (i+1) with ⟨e1,e2⟩ | ⟨v,v',j,e1,e2,e3,e4⟩
   ·refine .inl ⟨by simp [uM,hk,e1],?_⟩
    simp [Instr.findNow,h1,Instr.sameNow,hb,e2]
   ·refine .inr ⟨v,v',j+1,by simp [uM,hk,e1],?_,e3,?_⟩
    ·simp [Instr.findNow,h1,Instr.sameNow,hb,e2];omega
    ·simpa using e4
section
variable {P : Program} {w : World} {ρ : bk} {h : ae}
theorem afP {t:TypeId} (h:isString P t=true):P.underlying t=some .string:=by
 unfold isString at h
 split at h
 ·assumption
 ·cases h
theorem run_checkKey (b:Bool) {kt:TypeId} (hk:P.underlying kt=some .string) (k:ByteArray):(Instr.checkKey b 10000 kt (.string k)).run P w=.ok () w:=by
 rw [show (10000:Nat)=9999+1 from rfl,Instr.checkKey]
 simp [run_underlying hk]
theorem run_findKey {kt:TypeId} (hk:P.underlying kt=some .string) (k:ByteArray) (bn:List MapEntry) {r:Option (Nat×Value)} (hr:Instr.findNow .string (.string k) bn 0=some r):
  (Instr.findKey kt (.string k) bn).run P w=.ok r w:=by
 simp [Instr.findKey,run_underlying hk,hr]
theorem JT (b:Bool) {kt:TypeId} {kd:IntKind} (hk:P.underlying kt=some (.int kd)) (k:Int):(Instr.checkKey b 10000 kt (.int kd k)).run P w=.ok () w:=by
 rw [show (10000:Nat)=9999+1 from rfl,Instr.checkKey]
 simp [run_underlying hk]
theorem JU {kt:TypeId} {kd:IntKind} (hk:P.underlying kt=some (.int kd)) (k:Int) (bn:List MapEntry) {r:Option (Nat×Value)} (hr:Instr.findNow (.int kd) (.int kd k) bn 0=some r):
  (Instr.findKey kt (.int kd k) bn).run P w=.ok r w:=by
 simp [Instr.findKey,run_underlying hk,hr]
theorem bN.bn (H:bN P ρ h w) {i:Nat} {r:RI} {es:List (ByteArray×Value)} (hi:ρ i=some r) (he:h[i]?=some (.smap es)):
  ∃bn clock,w.heap[r.cZ]?=some (.map bn clock)/\oX ρ es bn.toList:=by
 obtain ⟨o,ho,hr⟩:=H.obj i r hi
 rw [he] at ho
 cases ho
 obtain ⟨bn,clock,h1,h2,h3⟩:=hr
 exact ⟨bn,clock,h1,oX.of (by simpa using h2) (by simpa using h3)⟩
theorem bN.adN (H:bN P ρ h w) {i:Nat} {r:RI} {kd:IntKind} {es:List (Int×Value)} (hi:ρ i=some r) (he:h[i]?=some (.mU kd es)):
  ∃bn clock,w.heap[r.cZ]?=some (.map bn clock)/\oY kd ρ es bn.toList:=by
 obtain ⟨o,ho,hr⟩:=H.obj i r hi
 rw [he] at ho
 cases ho
 obtain ⟨bn,clock,h1,h2,h3⟩:=hr
 exact ⟨bn,clock,h1,oY.of (by simpa using h2) (by simpa using h3)⟩
theorem run_getObj_map {b:Nat} {bn:Array MapEntry} {clock:Nat} (hb:w.heap[b]?=some (.map bn clock)):(getObj b).run P w=.ok (.map bn clock) w:=by
 simp [getObj,Sem.run,hb]
theorem aoh {t:TypeId} {z:Value} (hz:BG P t=some z):(∀w,(zeroValue t).run P w=.ok z w)/\mN z=true:=by
 unfold BG at hz
 split at hz
 ·rename_i i hi
  split at hz
  ·rename_i z' yW
   split at hz
   ·rename_i hc
    simp at hz;subst hz
    simp [As] at hc
    exact ⟨λw=>zG w hi yW,hc.1⟩
   ·cases hz
  ·cases hz
 ·cases hz
theorem aJR (H:bN P ρ h w) {t kt et:TypeId} {ok:Bool} {z m m' k k' v:Value} (ht:P.underlying t=some (.map kt et)) (hk:isString P kt=true) (hz:BG P et=some z)
  (hi:IA ok z h m k=some v) (hm:aK ρ m m') (qh:aK ρ k k'):∃v',(Instr.lookup t m' k' ok).run P w=.ok v' w/\aK ρ v v':=by
 unfold IA at hi
 split at hi
 ·rename_i i key
  rw [qh.vP]
  cases hm with
  | map hr=>
   rename_i r
   split at hi
   ·rename_i es he
    obtain ⟨bn,clock,hb,yD⟩:=H.bn hr he
    obtain ⟨pU,oF⟩:=aoh hz
    have mR:=afP hk
    rcases aAc yD key 0 with ⟨e1,e2⟩ | ⟨u,u',j,e1,e2,e3,_⟩
    ·rw [e1] at hi
     simp at hi
     have gQ:(Instr.lookup t (.map (some r.cZ)) (.string key) ok).run P w=.ok (if ok then .tuple #[z,.bool false] else z) w:=by
      simp [Instr.lookup,run_underlying ht,run_getObj_map hb,run_checkKey _ mR,run_findKey mR key _ e2,pU]
     refine ⟨_,gQ,?_⟩
     subst hi
     cases ok
     ·exact mN.rel oF
     ·exact aK.vQ (.cons (mN.rel oF) (.cons (.bool _) .nil))
    ·rw [e1] at hi
     simp at hi
     have gQ:(Instr.lookup t (.map (some r.cZ)) (.string key) ok).run P w=.ok (if ok then .tuple #[u',.bool true] else u') w:=by
      simp [Instr.lookup,run_underlying ht,run_getObj_map hb,run_checkKey _ mR,run_findKey mR key _ e2]
     refine ⟨_,gQ,?_⟩
     subst hi
     cases ok
     ·exact e3
     ·exact aK.vQ (.cons e3 (.cons (.bool _) .nil))
   ·cases hi
 ·cases hi
theorem afO {t:TypeId} {kd:IntKind} (h:zf P t=some kd):P.underlying t=some (.int kd):=by
 unfold zf at h
 split at h
 ·simp at h;subst h;assumption
 ·cases h
theorem aJT (H:bN P ρ h w) {t kt et:TypeId} {kd:IntKind} {ok:Bool} {z m m' k k' v:Value} (ht:P.underlying t=some (.map kt et)) (hk:zf P kt=some kd) (hz:BG P et=some z)
  (hi:IC kd ok z h m k=some v) (hm:aK ρ m m') (qh:aK ρ k k'):∃v',(Instr.lookup t m' k' ok).run P w=.ok v' w/\aK ρ v v':=by
 unfold IC at hi
 split at hi
 ·rename_i i Bd key
  rw [qh.kT]
  cases hm with
  | map hr=>
   rename_i r
   split at hi
   ·rename_i nZ es he
    split at hi
    ·rename_i px
     obtain ⟨rfl,rfl⟩:=px
     obtain ⟨bn,clock,hb,yD⟩:=H.adN hr he
     obtain ⟨pU,oF⟩:=aoh hz
     have mR:=afO hk
     rcases aAd yD key 0 with ⟨e1,e2⟩ | ⟨u,u',j,e1,e2,e3,_⟩
     ·rw [e1] at hi
      simp at hi
      have gQ:(Instr.lookup t (.map (some r.cZ)) (.int nZ key) ok).run P w=.ok (if ok then .tuple #[z,.bool false] else z) w:=by
       simp [Instr.lookup,run_underlying ht,run_getObj_map hb,JT _ mR,JU mR key _ e2,pU]
      refine ⟨_,gQ,?_⟩
      subst hi
      cases ok
      ·exact mN.rel oF
      ·exact aK.vQ (.cons (mN.rel oF) (.cons (.bool _) .nil))
     ·rw [e1] at hi
      simp at hi
      have gQ:(Instr.lookup t (.map (some r.cZ)) (.int nZ key) ok).run P w=.ok (if ok then .tuple #[u',.bool true] else u') w:=by
       simp [Instr.lookup,run_underlying ht,run_getObj_map hb,JT _ mR,JU mR key _ e2]
      refine ⟨_,gQ,?_⟩
      subst hi
      cases ok
      ·exact e3
      ·exact aK.vQ (.cons e3 (.cons (.bool _) .nil))
    ·cases hi
   ·cases hi
 ·cases hi
theorem aCV {o:Oper} {lo:qM} {g g':Operand->Value} (hc:uJ P o.op=some lo) (bc:o.op.operands.all kF=true) (H:bN P ρ h w)
  (hg:∀x,kF x=true->aK ρ (g x) (g' x)) {v:Value} (hi:iz lo g h=some v):∃v',(execOp g' o).run P w=.ok (.value v') w/\aK ρ v v':=by
 cases ho:o.op with
 | load t a=>
  rw [ho] at hc bc
  simp [Op.operands] at bc
  simp only [uJ] at hc
  split at hc
  ·rename_i d ht
   split at hc
   ·rename_i hk
    simp at hc;subst hc
    simp only [and_eq_true] at hk
    obtain ⟨v',h1,h2⟩:=anx H ht hk.1 hi (hg a bc)
    exact ⟨v',by simp [execOp,ho,h1],h2⟩
   ·cases hc
  ·cases hc
 | entry it=>
  rw [ho] at hc bc
  simp [Op.operands] at bc
  simp [uJ] at hc;subst hc
  obtain ⟨v',h1,h2⟩:=aJK H hi (hg it bc)
  exact ⟨v',by simp [execOp,ho,h1],h2⟩
 | convert s d x=>
  rw [ho] at hc bc
  simp [Op.operands] at bc
  simp only [uJ] at hc
  split at hc
  ·rename_i e hs hd
   split at hc
   ·rename_i he
    simp at hc;subst hc
    have hx:=hg x bc
    obtain ⟨h1,h2⟩:=aJD H hi hx
    refine ⟨v,?_,h2⟩
    have:(convert s d (g' x)).run P w=.ok v w:=by
     simp only [iz,ry,bind_eq_some_iff] at hi
     obtain ⟨cs,mQ,_⟩:=hi
     rcases D2 H mQ hx with ⟨e1,_⟩ | ⟨b,o',n,c',e1,_⟩
     ·rw [e1] at h1⊢;rw [run_convert_bytes_string w s d e _ _ _ hs he hd];exact h1
     ·rw [e1] at h1⊢;rw [run_convert_bytes_string w s d e _ _ _ hs he hd];exact h1
    simp [execOp,ho,this]
   ·cases hc
  ·cases hc
 | lookup t m k ok=>
  rw [ho] at hc bc
  simp [Op.operands] at bc
  simp only [uJ] at hc
  split at hc
  ·rename_i g lF
   split at hc
   ·rename_i kt et ht
    simp only [map_eq_some_iff] at hc
    obtain ⟨z,hz,rfl⟩:=hc
    obtain ⟨v',h1,h2⟩:=aJS H lF ht hz hi (hg m bc.1) (hg k bc.2)
    exact ⟨v',by simp [execOp,ho,h1],h2⟩
   ·cases hc
  split at hc
  ·rename_i kt et ht
   split at hc
   ·rename_i hk
    simp only [map_eq_some_iff] at hc
    obtain ⟨z,hz,rfl⟩:=hc
    obtain ⟨v',h1,h2⟩:=aJR H ht hk hz hi (hg m bc.1) (hg k bc.2)
    exact ⟨v',by simp [execOp,ho,h1],h2⟩
   ·simp only [bind_eq_some_iff,map_eq_some_iff] at hc
    obtain ⟨kd,px,z,hz,rfl⟩:=hc
    obtain ⟨v',h1,h2⟩:=aJT H ht px hz hi (hg m bc.1) (hg k bc.2)
    exact ⟨v',by simp [execOp,ho,h1],h2⟩
  ·cases hc
 | _=>rw [ho] at hc;simp [uJ] at hc
end
end
section
theorem JX {xs:List Value} {o:Nat} {vs:List Value} (h:o+vs.length<=xs.length) (j:Nat):
  (setAt xs o vs)[j]?=if j<o then xs[j]? else if j<o+vs.length then vs[j-o]? else xs[j]?:=by
 have hl:(xs.take o).length=o:=by simp;omega
 unfold setAt
 by_cases h1:j<o
 ·rw [if_pos h1,List.append_assoc,getElem?_append_left (by omega),getElem?_take,if_pos h1]
 ·rw [if_neg h1]
  by_cases h2:j<o+vs.length
  ·rw [if_pos h2,List.append_assoc,List.getElem?_append_right (by omega),hl,getElem?_append_left (by omega)]
  ·rw [if_neg h2,List.getElem?_append_right (by simp;omega),List.getElem?_drop]
   congr 1
   simp
   omega
theorem DW {xs:List Value} {o:Nat} {vs:List Value} (h:o+vs.length<=xs.length):(setAt xs o vs).length=xs.length:=by
 unfold setAt
 simp
 omega
theorem ja.le {ρ:bk} {c:Array Value} {xs:List Value} (h:ja ρ c 0 xs):xs.length<=c.size:=by
 rcases Nat.eq_zero_or_pos xs.length with hz | hz
 ·omega
 ·have hx:xs[xs.length-1]?=some (xs[xs.length-1]'(by omega)):=List.getElem?_eq_getElem _
  obtain ⟨_,y,hy,_⟩:=h _ _ hx
  have:=(Array.getElem?_eq_some_iff.1 hy).1
  omega
theorem ja.put {ρ:bk} {c:Array Value} {xs:List Value} {o:Nat} {vs kX:List Value} (h:ja ρ c 0 xs) (hv:dw ρ vs kX) (h1:∀x∈vs,jx x=true) (hl:o+vs.length<=xs.length):
  ja ρ (setAt c.toList o kX).toArray 0 (setAt xs o vs):=by
 intro j x hj
 have gP:=h.le
 have hlen:=hv.length
 rw [JX hl] at hj
 have e:(setAt c.toList o kX).toArray[0+j]?=if j<o then c.toList[j]? else if j<o+kX.length then kX[j-o]? else c.toList[j]?:=by
  rw [zero_add,List.getElem?_toArray,JX (by simp;omega)]
 rw [e]
 by_cases h1':j<o
 ·rw [if_pos h1'] at hj⊢
  obtain ⟨q1,y,q2,q3⟩:=h j x hj
  exact ⟨q1,y,by simpa using q2,q3⟩
 ·rw [if_neg h1'] at hj⊢
  by_cases h2:j<o+vs.length
  ·rw [if_pos h2] at hj
   rw [if_pos (by omega)]
   obtain ⟨y,q2,q3⟩:=hv.get hj
   exact ⟨h1 x (mem_of_getElem? hj),y,q2,q3⟩
  ·rw [if_neg h2] at hj
   rw [if_neg (by omega)]
   obtain ⟨q1,y,q2,q3⟩:=h j x hj
   exact ⟨q1,y,by simpa using q2,q3⟩
theorem adS (z:List Value) (n:Nat):∀(j:Nat),j<n*z.length->(List.replicate n z).flatten[j]?=z[j%z.length]?:=by
 induction n with
 | zero=>intro j hj;simp at hj
 | succ n ih=>
  intro j hj
  rw [List.replicate_succ,List.flatten_cons]
  by_cases h:j<z.length
  ·rw [getElem?_append_left h,Nat.mod_eq_of_lt h]
  ·have e:j%z.length=(j-z.length)%z.length:=by rw [Nat.mod_eq_sub_mod (by omega)]
   rw [List.getElem?_append_right (by omega),ih _ (by rw [add_mul] at hj;omega),e]
theorem VM (z:List Value) (n:Nat):(bE z n).length=n*z.length:=by
 induction n with
 | zero=>simp [bE]
 | succ n ih=>simp only [bE,List.replicate_succ,List.flatten_cons,List.length_append] at ih⊢;rw [ih,add_mul];omega
theorem aoi {z:List Value} {n:Nat} {p:Value->Prop} (h:∀x∈z,p x):∀x∈bE z n,p x:=by
 intro x hx
 simp only [bE,List.mem_flatten,List.mem_replicate] at hx
 obtain ⟨l,⟨_,rfl⟩,hm⟩:=hx
 exact h x hm
theorem agm (z:Array Value) (m j:Nat) (hj:j<m) (hz:0<z.size):(madeCells z m)[j]?=z[j%z.size]?:=by
 have aw:j%z.size<z.size:=Nat.mod_lt _ hz
 simp [madeCells,hj,aw]
theorem aCZ (z:Value) (n k:Nat) (hk:(dL z).length=k):((Array.range (n*k)).map (z.cells[·%z.cells.size]!)).toList=bE (dL z) n:=by
 have hs:z.cells.size=k:=by rw [<-hk];simp [dL]
 apply List.ext_getElem?
 intro j
 by_cases hj:j<n*k
 ·have hz:0<z.cells.size:=by
   rcases Nat.eq_zero_or_pos k with h | h
   ·subst h;simp at hj
   ·omega
  have:=agm z.cells (n*k) j hj hz
  simp only [madeCells] at this
  rw [getElem?_toList,this,bE,adS _ _ _ (by rw [hk];exact hj)]
  simp [dL]
 ·rw [List.getElem?_eq_none (by simp;omega),List.getElem?_eq_none (by rw [VM,hk];omega)]
section
variable {P : Program} {w : World} {ρ : bk} {h : ae}
def kI (P:Program) (ρ:bk) (h:ae) (w:World) (v:Value) (h':ae) (s:Result Next):Prop:=
 ∃nx w' aN v',s=.ok nx w'/\(nx=.value v'∨(nx=.skip/\v'=undef))/\aK aN v v'/\bN P aN h' w'/\Tr ρ h w aN h' w'
theorem bN.arr (H:bN P ρ h w) {i:Nat} {r:RI} {e:TypeId} {xs:List Value} (hi:ρ i=some r) (hx:h[i]?=some (.arr e xs)):
  r.elem=e/\r.sh=0/\∃c,w.heap[r.cZ]?=some (.cells c e (0,0))/\c.size=r.size/\ja ρ c 0 xs:=by
 obtain ⟨o,ho,hr⟩:=H.obj i r hi
 rw [hx] at ho
 cases ho
 exact hr
theorem aJ3 (H:bN P ρ h w) {t:TypeId} {a a' v v':Value} {h':ae} (hk:jG P t=true) (hi:sA (P.cellsOf t) h a v=some h') (ha:aK ρ a a') (hv:aK ρ v v'):
  ∃w',(Instr.storeAt t a' v').run P w=.ok () w'/\bN P ρ h' w'/\Tr ρ h w ρ h' w':=by
 unfold sA at hi
 split at hi
 ·rename_i i o
  obtain ⟨r,hr,rfl⟩:=ha.DO
  split at hi
  ·rename_i e xs hx
   split at hi
   ·rename_i hc
    obtain ⟨qY,hl,hle⟩:=hc
    simp at hi;subst hi
    obtain ⟨h1,h2,c,h3,h4,h5⟩:=H.arr hr hx
    have A3:=hv.cells qY
    have qW:(dL v').length=P.cellsOf t:=by rw [<-A3.length];exact hl
    have jv:=run_storeCells_at P r.cZ o e (dL v') 0 c w h3 (by have:=h5.le;simp;omega) (A3.zx (hv.Hl qY))
    have heq:(c.toList.take (o+0)++dL v'++c.toList.drop (o+0+(dL v').length)).toArray=(setAt c.toList o (dL v')).toArray:=by simp [setAt]
    rw [heq] at jv
    have jF:fC h i:=.inl ⟨e,xs,hx⟩
    obtain ⟨q1,q2⟩:=H.set (o:=.arr e (setAt xs o (dL v))) hr jF (lP.row h3 (setAt c.toList o (dL v')).toArray)
     ⟨h1,h2,_,(lP.row h3 _).here,by simp [DW (show o+(dL v').length<=c.toList.length by have:=h5.le;simp;omega),h4],h5.put A3 (hv.Hl qY) (by omega)⟩
    refine ⟨_,?_,q1,q2⟩
    have nH:v'.cells.size=P.cellsOf t:=by rw [<-qW];simp [dL]
    have aBA:(storeCells ⟨r.cZ,r.sh+o,none⟩ v'.cells.toList).run P w=.ok () (w.setRow r.cZ (setAt c.toList o (dL v')).toArray):=by
     rw [h2,zero_add]
     exact jv
    simp [Instr.storeAt,Instr.sureAddr,storeVar,qD w hk,nH,aBA]
   ·cases hi
  ·cases hi
 ·cases hi
theorem Dw (H:bN P ρ h w) {w':World} {e:TypeId} {c:Array Value} {xs:List Value} (nb:kJ w (.cells c e) w') (hc:ja ρ c 0 xs):
  bN P (ρ.add h.length ⟨w.heap.size,0,e,P.cellsOf e,c.size⟩) (h++[.arr e xs]) w'/\Tr ρ h w (ρ.add h.length ⟨w.heap.size,0,e,P.cellsOf e,c.size⟩) (h++[.arr e xs]) w':=
 H.new nb rfl rfl rfl (λ_=>.inl rfl) ⟨rfl,rfl,c,nb.new,rfl,hc.mono (bk.vF H.none)⟩
theorem Aq (ρ:bk) (i:Nat) (r:RI):ρ.add i r i=some r:=by simp [bk.add]
theorem agJ (ρ:bk) (h:ae) (r:RI) (hs:r.sh=0):aK (ρ.add h.length r) (Bl h) (.pointer (some ⟨r.cZ,0,none⟩)):=by
 have:=aK.ptr (ρ:=ρ.add h.length r) (i:=h.length) (o:=0) (Aq _ _ _)
 rw [hs] at this
 exact this
theorem D1 (ρ:bk) (i:Nat) (r:RI) (hs:r.sh=0) {n c':Nat} (hn:n<=c') (hc:c'<=maxLen) (hb:c'*r.esz<=r.size):aK (ρ.add i r) (sl r.elem i 0 n) (.slice (some ⟨r.cZ,0,none⟩) n c'):=
 aK.slice (Aq _ _ _) (.inl (by omega)) hn hc (by omega) ⟨le_refl _,hn⟩
theorem aJE (H:bN P ρ h w) {e:TypeId} {x x' v:Value} {h':ae} (hi:cR e h x=some (v,h')) (hx:aK ρ x x'):
  ∃w' aN v',(Instr.box e x').run P w=.ok v' w'/\aK aN v v'/\bN P aN h' w'/\Tr ρ h w aN h' w':=by
 unfold cR at hi
 split at hi
 ·rename_i qY
  simp at hi
  obtain ⟨rfl,rfl⟩:=hi
  have hc:ja ρ x'.cells 0 (dL x):=ja.of (hx.cells qY) (hx.Hl qY)
  obtain ⟨q1,q2⟩:=Dw H (kJ.alloc w (.cells x'.cells e)) hc
  exact ⟨_,_,_,by simp [Instr.box,newVar,newRow],agJ _ _ _ rfl,q1,q2⟩
 ·cases hi
theorem aJB (H:bN P ρ h w) {e:TypeId} {zs:List Value} (hz:zeroOf P e=some zs):
  ∃w' aN v',(Instr.alloc e true (.tuple #[])).run P w=.ok v' w'/\aK aN (Bl h) v'/\bN P aN (h++[.arr e zs]) w'/\Tr ρ h w aN (h++[.arr e zs]) w':=by
 obtain ⟨i,z,hi,qt,rfl,qY,gP,hlen⟩:=BH hz
 have hc:ja ρ z.cells 0 (dL z):=ja.of (dw.closed λx hx=>(gP x hx).1) (λx hx=>(gP x hx).2)
 obtain ⟨q1,q2⟩:=Dw H (kJ.alloc w (.cells z.cells e)) hc
 exact ⟨_,_,_,by simp [Instr.alloc,zG w hi qt,newVar,newRow],agJ _ _ _ rfl,q1,q2⟩
theorem OY {t:TypeId} {i:TypeInfo} (hi:P.info? t=some i):P.cellsOf t=i.size:=by simp [Program.cellsOf,hi]
theorem Ys {t:TypeId} {i:TypeInfo} (hi:P.info? t=some i):P.bytesOf t=i.bytes:=by simp [Program.bytesOf,hi]
theorem aJY (H:bN P ρ h w) {t e:TypeId} {n:Nat} {zs:List Value} {ps:List (Nat×Nat×Value)} {qs:Array (Nat×Value)} {v:Value} {h':ae} (ht:P.underlying t=some (.slice e)) (hz:zeroOf P e=some zs)
  (hn:n*P.cellsOf e<=16777216) (b7:P.cellsOf e≠0) (hp:uA ρ (λi=>some (i*P.cellsOf e,P.cellsOf e)) ps qs.toList) (hi:cH e n zs h ps=some (v,h')):
  ∃w' aN v',(Instr.buildSlice t n qs).run P w=.ok v' w'/\aK aN v v'/\bN P aN h' w'/\Tr ρ h w aN h' w':=by
 obtain ⟨i,z,nX,qt,rfl,qY,gP,hlen⟩:=BH hz
 have hk:jG P e=true:=by simp [jG,nX]
 have qU:=OY nX
 simp only [cH,map_eq_some_iff,Prod.mk.injEq] at hi
 obtain ⟨cs,hf,rfl,rfl⟩:=hi
 obtain ⟨zero,sv,hzl⟩:∃zero:Array Value,(if n*P.cellsOf e=0 then (Pure.pure #[]:Sem (Array Value)) else do pure (<-zeroValue e).cells).run P w=.ok zero w/\
   ((Array.range (n*P.cellsOf e)).map (zero[·%zero.size]!)).toList=bE (dL z) n:=by
  by_cases h0:n*P.cellsOf e=0
  ·refine ⟨#[],by simp [h0],?_⟩
   have oB:n=0:=by
    rcases Nat.mul_eq_zero.1 h0 with h | h
    ·exact h
    ·exact absurd h b7
   subst oB
   simp [bE,Array.range_zero']
  ·exact ⟨z.cells,by simp [h0,zG w nX qt],by rw [qU];exact aCZ z n i.size hlen⟩
 have aAK:dw ρ (bE (dL z) n) (bE (dL z) n):=dw.closed (aoi λx hx=>(gP x hx).1)
 obtain ⟨kj,AO,hr,h1,tJ⟩:=Px (ys:=(Array.range (n*P.cellsOf e)).map (zero[·%zero.size]!)) hp hf (by rw [hzl];exact aAK) (aoi λx hx=>(gP x hx).2)
 obtain ⟨q1,q2⟩:=Dw H (kJ.alloc w (.cells kj e)) (ja.of hr h1)
 have nH:kj.size=n*P.cellsOf e:=by
  have:=hr.length
  rw [tJ,VM,hlen,<-qU] at this
  simpa using this.symm
 have hnm:n<=maxLen:=by
  have h1:1<=P.cellsOf e:=by omega
  have:=Nat.mul_le_mul_left n h1
  unfold maxLen
  omega
 refine ⟨_,_,.slice (some ⟨w.heap.size,0,none⟩) n n,?_,D1 ρ h.length ⟨w.heap.size,0,e,P.cellsOf e,kj.size⟩ rfl (le_refl _) hnm (by simp [nH]),q1,q2⟩
 unfold Instr.buildSlice
 simp only [Sem.run_bind,run_underlying ht,Result.andThen_ok,qD w hk]
 have h24:¬(n*P.cellsOf e>2^24):=by rw [show (2^24:Nat)=16777216 from rfl];omega
 rw [if_neg h24]
 by_cases h0:n*P.cellsOf e=0
 ·rw [if_pos h0] at sv⊢
  simp only [Sem.run_pure,Result.ok.injEq,and_true] at sv
  subst sv
  simp only [Sem.run_bind,Sem.run_pure,Result.andThen_ok,AO]
  simp [newRow]
 ·rw [if_neg h0] at sv⊢
  simp only [Sem.run_bind,Sem.run_pure] at sv⊢
  rw [zG w nX qt] at sv⊢
  simp only [Result.andThen_ok,Result.ok.injEq,and_true] at sv⊢
  subst sv
  rw [AO]
  simp [newRow]
end
end
section
section
variable {P : Program} {w : World} {ρ : bk} {h : ae}
theorem aJU (H:bN P ρ h w) {t e:TypeId} {zs:List Value} {l c l' c' v:Value} {h':ae} (ht:P.underlying t=some (.slice e)) (hz:zeroOf P e=some zs)
  (hi:eM e (P.bytesOf e) zs h l c=some (v,h')) (hl:aK ρ l l') (hc:aK ρ c c'):
  ∃w' aN v',(Instr.makeSlice t l' c').run P w=.ok v' w'/\aK aN v v'/\bN P aN h' w'/\Tr ρ h w aN h' w':=by
 obtain ⟨i,z,nX,qt,rfl,qY,gP,hlen⟩:=BH hz
 unfold eM at hi
 split at hi
 ·rename_i k1 l k2 c
  rw [hl.kT,hc.kT]
  split at hi
  ·rename_i hb
   obtain ⟨h0,h1,h2,h3⟩:=hb
   simp at hi
   obtain ⟨rfl,rfl⟩:=hi
   rw [Ys nX] at h2
   have gQ:=run_make (P:=P) w t e i z ht nX qt k1 k2 l c h0 h1 h2 h3
   have yz:ja ρ (madeCells z.cells (c.toNat*i.size)) 0 (bE (dL z) l.toNat):=by
    intro j x hj
    have mC:j<l.toNat*i.size:=by
     have:=(cm hj).1
     rwa [VM,hlen] at this
    have QW:z.cells.size=i.size:=by rw [<-hlen];simp [dL]
    have iP:0<z.cells.size:=by
     rcases Nat.eq_zero_or_pos i.size with q | q
     ·rw [q] at mC;simp at mC
     ·omega
    have Qr:l.toNat*i.size<=c.toNat*i.size:=Nat.mul_le_mul_right _ (by omega)
    rw [bE,adS _ _ _ (by rw [hlen];exact mC)] at hj
    have hx:x∈dL z:=mem_of_getElem? hj
    refine ⟨(gP x hx).2,x,?_,mN.rel (gP x hx).1⟩
    rw [zero_add,agm _ _ _ (by omega) iP]
    simpa [dL] using hj
   obtain ⟨q1,q2⟩:=Dw H (kJ.alloc w (.cells (madeCells z.cells (c.toNat*i.size)) e)) yz
   refine ⟨_,_,_,gQ,?_,q1,q2⟩
   exact D1 ρ h.length ⟨w.heap.size,0,e,P.cellsOf e,(madeCells z.cells (c.toNat*i.size)).size⟩ rfl (by omega) (by unfold maxLen;omega) (by simp [size_madeCells,OY nX])
  ·cases hi
 ·cases hi
theorem anr {t e:TypeId} {i:TypeInfo} (ht:P.underlying t=some (.slice e)) (hi:P.info? e=some i) (type:TypeId) (b:Option Addr) (n c:Nat) (x:Value) (hn:n<=c)
  (hx:x=.slice none 0 0∨∃a c2,x=.slice (some a) 0 c2):(Builtin.append_ #[t,t] type #[.slice b n c,x]).run P w=.ok (.slice b n c) w:=by
 rcases hx with rfl | ⟨a,c2,rfl⟩
 ·cases b <;> simp [Builtin.append_,run_underlying ht,sizeOf,typeInfo,hi,Builtin.lenOf,hn,Builtin.firstCells,storeCells]
 ·cases b <;> simp [Builtin.append_,run_underlying ht,sizeOf,typeInfo,hi,Builtin.lenOf,hn,Builtin.firstCells,loadCells,loadCellsFrom,storeCells]
theorem OZ {ρ:bk} {c:Array Value} {xs ys zs:List Value} (hx:∀(j:Nat) (x:Value),xs[j]?=some x->jx x=true/\∃y,c[j]?=some y/\aK ρ x y) (hz:dw ρ zs ys) (h1:∀x∈zs,jx x=true)
  (hc:∀(j:Nat) (y:Value),ys[j]?=some y->c[xs.length+j]?=some y):ja ρ c 0 (xs++zs):=by
 intro j x hj
 by_cases aw:j<xs.length
 ·rw [getElem?_append_left aw] at hj
  simpa using hx j x hj
 ·rw [List.getElem?_append_right (by omega)] at hj
  obtain ⟨y,hy,hr⟩:=hz.get hj
  refine ⟨h1 x (mem_of_getElem? hj),y,?_,hr⟩
  have:=hc _ y hy
  rw [<-this]
  congr 1
  omega
theorem aJC (H:bN P ρ h w) {t e:TypeId} {zs:List Value} {type:TypeId} {s x s' x' v:Value} {h':ae} (ht:P.underlying t=some (.slice e)) (hz:zeroOf P e=some zs)
  (hi:cT e (P.cellsOf e) (P.bytesOf e) h s x=some (v,h')) (hs:aK ρ s s') (hx:aK ρ x x'):
  ∃w' aN v',(Builtin.append_ #[t,t] type #[s',x']).run P w=.ok v' w'/\aK aN v v'/\bN P aN h' w'/\Tr ρ h w aN h' w':=by
 obtain ⟨i,z,nX,qt,rfl,qY,gP,hlen⟩:=BH hz
 have qU:=OY nX
 have hbe:=Ys nX
 have QW:z.cells.size=i.size:=by rw [<-hlen];simp [dL]
 unfold cT at hi
 split at hi
 ·rename_i news m hn hm
  have hxx:=D2 H hn hx
  have sv:m=0->(x'=.slice none 0 0∨∃a c2,x'=.slice (some a) 0 c2):=by
   intro nD
   rcases hxx with ⟨e1,_⟩ | ⟨b,o,n2,c2,e1,e2,_⟩
   ·exact .inl e1
   ·rw [hm] at e2;cases e2;subst nD;exact .inr ⟨_,_,e1⟩
  have QK:0<m->∃b o c2,x'=.slice (some ⟨b,o,none⟩) m c2/\news.length=m*i.size/\(∀v∈news,jx v=true)/\
    ∃ys,dw ρ news ys/\ys.length=m*i.size/\∀j v,ys[j]?=some v->w.cell? ((⟨b,o,none⟩:Addr).add j)=some v:=by
   intro nD
   rcases hxx with ⟨e1,e2⟩ | ⟨b,o,n2,c2,e1,e2,e3,e4,ys,e5,e6⟩
   ·subst e1
    cases hx
    ·simp [iY] at hm
     omega
    ·simp [iY] at hm
   ·rw [hm] at e2;cases e2
    refine ⟨b,o,c2,e1,by rw [e3,qU],e4,ys,e5,by rw [<-e5.length,e3,qU],?_⟩
    intro j v hj
    rw [Addr.add_lit]
    exact e6 j v hj
  split at hi
  ·cases hs
   split at hi
   ·rename_i nD
    simp at hi
    obtain ⟨rfl,rfl⟩:=hi
    exact ⟨w,ρ,_,anr ht nX type none 0 0 x' (le_refl _) (sv nD),.qw,H,Tr.refl H⟩
   ·rename_i nD
    split at hi
    ·rename_i hb
     obtain ⟨pO,AK⟩:=hb
     simp at hi
     obtain ⟨rfl,rfl⟩:=hi
     obtain ⟨b,o,c2,rfl,f1,f2,ys,f3,f4,f5⟩:=QK (by omega)
     have gQ:=run_append_nil (P:=P) w t type e i z ht nX qt ⟨b,o,none⟩ m c2 ys f4 f5 (by omega) (by unfold maxLen at AK;omega) (by rw [<-hbe];omega)
     have cK:=grownCap_ge w m 0 e
     have yz:ja ρ (ys.toArray++Builtin.zeroCells z.cells (grownCap w m 0 e-m)) 0 news:=by
      have:=OZ (ρ:=ρ) (c:=ys.toArray++Builtin.zeroCells z.cells (grownCap w m 0 e-m)) (xs:=[]) (ys:=ys) (zs:=news) (by simp) f3 f2 (by
       intro j y hj
       have aw:=(cm hj).1
       rw [Array.getElem?_append_left (by simpa using aw)]
       simpa using hj)
      simpa using this
     obtain ⟨q1,q2⟩:=Dw H (kJ.drew w (.cells (ys.toArray++Builtin.zeroCells z.cells (grownCap w m 0 e-m)) e)) yz
     refine ⟨_,_,_,gQ,?_,q1,q2⟩
     refine D1 ρ h.length ⟨w.heap.size,0,e,P.cellsOf e,(ys.toArray++Builtin.zeroCells z.cells (grownCap w m 0 e-m)).size⟩ rfl cK (grownCap_le_maxLen w m 0 e AK) ?_
     simp only [Array.size_append,List.size_toArray,size_zeroCells,f4,QW,qU]
     rw [<-add_mul]
     exact Nat.mul_le_mul_right _ (by omega)
    ·cases hi
  ·rename_i ii e' n cc
   split at hi
   ·rename_i Pk xs A5
    split at hi
    ·rename_i hb
     obtain ⟨rfl,rfl,H4,hb4,hb5⟩:=hb
     have hs0:=hs
     cases hs with
     | slice hr ho hnc H7 wG ek=>
      rename_i o' c' r
      obtain ⟨g1,g2,c,g3,g4,g5⟩:=H.arr hr A5
      obtain rfl:o'=0:=by
       rcases ho with ho | ⟨_,q,_⟩
       ·omega
       ·omega
      have kP:=H.esz _ _ hr
      split at hi
      ·rename_i nD
       simp at hi
       obtain ⟨rfl,rfl⟩:=hi
       exact ⟨w,ρ,_,anr ht nX type _ n c' x' hnc (sv nD),hs0,H,Tr.refl H⟩
      ·rename_i nD
       simp at hi
       obtain ⟨rfl,rfl⟩:=hi
       obtain ⟨b,o,c2,rfl,f1,f2,ys,f3,f4,f5⟩:=QK (by omega)
       rw [qU] at H4
       have yE:r.esz=i.size:=by rw [kP,qU]
       have jF:fC h ii:=.inl ⟨_,xs,A5⟩
       by_cases AY:n+m<=c'
       ·have uX:n*i.size+ys.length<=c.size:=by
         rw [f4,g4,<-add_mul]
         have:=Nat.mul_le_mul_right i.size AY
         rw [yE] at wG
         omega
        have gQ:=run_append_room (P:=P) w t type r.elem i ht nX r.cZ n c' c g3 ⟨b,o,none⟩ m c2 ys f4 f5 (f3.zx f2) AY uX
        have mQ:(c.toList.take (n*i.size)++ys++c.toList.drop (n*i.size+ys.length)).toArray=(setAt c.toList (n*i.size) ys).toArray:=rfl
        rw [mQ] at gQ
        have nH:(setAt c.toList (n*i.size) ys).toArray.size=c.size:=by simp [DW (show n*i.size+ys.length<=c.toList.length by simpa using uX)]
        have yz:ja ρ (setAt c.toList (n*i.size) ys).toArray 0 (xs++news):=by
         refine OZ (ys:=ys) ?_ f3 f2 ?_
         ·intro j x hj
          have aw:=(cm hj).1
          obtain ⟨k1,y,k2,k3⟩:=g5 j x hj
          refine ⟨k1,y,?_,k3⟩
          rw [List.getElem?_toArray,JX (by simpa using uX),if_pos (by omega)]
          simpa using k2
         ·intro j y hj
          have aw:=(cm hj).1
          rw [List.getElem?_toArray,JX (by simpa using uX),if_neg (by omega),if_pos (by omega)]
          rw [<-hj]
          congr 1
          omega
        have sb:=lP.row g3 (setAt c.toList (n*i.size) ys).toArray
        obtain ⟨q1,q2⟩:=H.move (o:=.arr r.elem (xs++news)) hr jF sb ⟨rfl,g2,_,sb.here,by rw [nH,g4],yz.mono (bk.vF H.none)⟩
        refine ⟨_,_,_,gQ,?_,q1,q2⟩
        exact D1 ρ h.length r g2 AY H7 (by omega)
       ·obtain ⟨RW,o1,o2,o3,o4⟩:=g5.Vi (o:=0) (n:=n*i.size) (by omega)
        have aBF:(xs.drop 0).take (n*i.size)=xs:=by rw [List.drop_zero];exact List.take_of_length_le (by omega)
        rw [aBF] at o1 o3
        have Ip:∀j v,RW[j]?=some v->w.cell? ((⟨r.cZ,0,none⟩:Addr).add j)=some v:=by
         intro j v hj
         rw [Addr.add_lit,Cd g3]
         simpa using o4 j v hj
        have aez:=growslice_fits (need:=n+m) (old:=c') (bytes:=P.bytesOf r.elem) (by omega) hb4
        rw [hbe] at aez
        have gQ:=run_append_grow (P:=P) w t type r.elem i z ht nX qt ⟨r.cZ,0,none⟩ n c' RW o2 Ip ⟨b,o,none⟩ m c2 ys f4 f5 (by omega) (by unfold maxLen at hb5;omega) aez
        have cK:=grownCap_ge w (n+m) c' r.elem
        generalize uT:RW.toArray++ys.toArray++Builtin.zeroCells z.cells (grownCap w (n+m) c' r.elem-(n+m))=cc at gQ
        have aAJ:cc.size=n*i.size+m*i.size+(grownCap w (n+m) c' r.elem-(n+m))*i.size:=by
         rw [<-uT];simp only [Array.size_append,List.size_toArray,size_zeroCells,o2,f4,QW]
        have yz:ja ρ cc 0 (xs++news):=by
         refine OZ (ys:=ys) ?_ f3 f2 ?_
         ·intro j x hj
          have aw:=(cm hj).1
          obtain ⟨y,k2,k3⟩:=o1.get hj
          refine ⟨o3 x (mem_of_getElem? hj),y,?_,k3⟩
          rw [<-uT,Array.append_assoc,Array.getElem?_append_left (by simp;omega)]
          simpa using k2
         ·intro j y hj
          have aw:=(cm hj).1
          rw [<-uT,Array.append_assoc,Array.getElem?_append_right (by simp;omega),Array.getElem?_append_left (by simp;omega)]
          rw [<-hj,List.getElem?_toArray]
          congr 1
          simp
          omega
        have nb:=kJ.drew w (.cells cc r.elem)
        obtain ⟨q1,q2⟩:=H.new (h₀:=h.set ii .dead) (o:=.arr r.elem (xs++news)) (r:=⟨w.heap.size,0,r.elem,P.cellsOf r.elem,cc.size⟩) nb rfl rfl (by simp) (by
          intro j
          by_cases hj:j=ii
          ·subst hj;right;rw [List.getElem?_set_self (H.lt hr)]
          ·left;rw [getElem?_set_ne (Ne.symm hj)]) ⟨rfl,rfl,cc,nb.new,rfl,yz.mono (bk.vF H.none)⟩
        refine ⟨_,_,_,gQ,?_,q1,q2⟩
        refine D1 ρ h.length ⟨w.heap.size,0,r.elem,P.cellsOf r.elem,cc.size⟩ rfl cK (grownCap_le_maxLen w (n+m) c' r.elem hb5) ?_
        simp only [aAJ,qU]
        rw [<-add_mul,<-add_mul]
        exact Nat.mul_le_mul_right _ (by omega)
    ·rename_i km
     clear km
     split at hi
     ·rename_i hb
      obtain ⟨rfl,rfl,nD,eX,H4⟩:=hb
      simp at hi
      obtain ⟨rfl,rfl⟩:=hi
      cases hs with
      | slice hr ho hnc H7 wG ek=>
       rename_i o' c' r
       obtain ⟨g1,g2,c,g3,g4,g5⟩:=H.arr hr A5
       obtain rfl:o'=0:=by
        rcases ho with ho | ⟨_,q,_⟩
        ·omega
        ·omega
       have kP:=H.esz _ _ hr
       obtain ⟨b,o,c2,rfl,f1,f2,ys,f3,f4,f5⟩:=QK (by omega)
       rw [qU] at H4
       have yE:r.esz=i.size:=by rw [kP,qU]
       have jF:fC h ii:=.inl ⟨_,xs,A5⟩
       have AY:n+m<=c':=by omega
       have hfx:n*i.size+news.length<=xs.length:=by rw [f1,<-add_mul];exact H4
       have uX:n*i.size+ys.length<=c.size:=by
        have:=g5.le
        rw [<-f3.length];omega
       have gQ:=run_append_room (P:=P) w t type r.elem i ht nX r.cZ n c' c g3 ⟨b,o,none⟩ m c2 ys f4 f5 (f3.zx f2) AY uX
       have mQ:(c.toList.take (n*i.size)++ys++c.toList.drop (n*i.size+ys.length)).toArray=(setAt c.toList (n*i.size) ys).toArray:=rfl
       rw [mQ] at gQ
       have nH:(setAt c.toList (n*i.size) ys).toArray.size=c.size:=by simp [DW (show n*i.size+ys.length<=c.toList.length by simpa using uX)]
       have sb:=lP.row g3 (setAt c.toList (n*i.size) ys).toArray
       obtain ⟨q1,q2⟩:=H.set (o:=.arr r.elem (setAt xs (n*i.size) news)) hr jF sb ⟨rfl,g2,_,sb.here,by rw [nH,g4],g5.put f3 f2 hfx⟩
       rw [qU]
       exact ⟨_,_,_,gQ,aK.slice hr (.inl (by omega)) AY H7 wG ⟨eX,ek.2⟩,q1,q2⟩
     ·cases hi
   ·cases hi
  ·cases hi
 ·cases hi
theorem aJH (H:bN P ρ h w) {t e tt:TypeId} {type:TypeId} {d x d' x' v:Value} {h':ae} (ht:P.underlying t=some (.slice e)) (hz:(P.info? e).map (·.size)=some 1) (hi:sw h d x=some (v,h')) (hd:aK ρ d d') (hx:aK ρ x x'):
  ∃w',(Builtin.copy_ #[t,tt] type #[d',x']).run P w=.ok v w'/\aK ρ v v/\bN P ρ h' w'/\Tr ρ h w ρ h' w':=by
 unfold sw at hi
 split at hi
 ·rename_i n m cs hn hm mQ
  have tD:∃p c,d'=.slice p n c:=by
   unfold iY at hn
   split at hn
   ·cases hd;cases hn;exact ⟨_,_,rfl⟩
   ·cases hd;cases hn;exact ⟨_,_,rfl⟩
   ·cases hn
  have iI:∃p c,x'=.slice p m c:=by
   unfold iY at hm
   split at hm
   ·cases hx;cases hm;exact ⟨_,_,rfl⟩
   ·cases hx;cases hm;exact ⟨_,_,rfl⟩
   ·cases hm
  split at hi
  ·rename_i h0
   simp at hi
   obtain ⟨rfl,rfl⟩:=hi
   obtain ⟨p,c,rfl⟩:=tD
   obtain ⟨q,c',rfl⟩:=iI
   exact ⟨w,run_copy_none (P:=P) w t tt type e p q n c m c' ht hz h0,.int _ _,H,.refl H⟩
  ·rename_i h0
   split at hi
   ·rename_i i o e' n' c0
    split at hi
    ·rename_i e2 xs hg
     split at hi
     ·rename_i hle
      simp only [Option.some.injEq,Prod.mk.injEq] at hi
      obtain ⟨rfl,rfl⟩:=hi
      cases hd with
      | slice hr ho qj hc hb ek=>
       rename_i o' c' r
       simp [iY] at hn
       subst hn
       have iP:0<n':=by
        have:Nat.min m n'<=n':=Nat.min_le_right _ _
        omega
       have fU:o'=r.sh+o:=by
        rcases ho with ho | ⟨q1,q2,q3⟩
        ·exact ho
        ·omega
       subst fU
       obtain ⟨a1,a2,c,a3,a4,a5⟩:=H.arr hr hg
       rcases D2 H mQ hx with ⟨rfl,rfl⟩ | ⟨b,ob,nn,cc,rfl,hl,hlen,tA,ys,Dk,Qn⟩
       ·obtain ⟨q,c',hq⟩:=iI
        cases hq
        exact absurd (Nat.zero_min n') h0
       ·rw [hm] at hl
        cases hl
        rw [Nat.mul_one] at hlen
        have QU:=Dk.length
        have aw:(ys.take (Nat.min m n')).length=Nat.min m n':=by
         rw [List.length_take,<-QU,hlen];exact Nat.min_eq_left (Nat.min_le_left _ _)
        have hct:(cs.take (Nat.min m n')).length=Nat.min m n':=by
         rw [List.length_take,hlen];exact Nat.min_eq_left (Nat.min_le_left _ _)
        have tO:dw ρ (cs.take (Nat.min m n')) (ys.take (Nat.min m n')):=Dk.take _
        have CA:∀v∈cs.take (Nat.min m n'),jx v=true:=λv hv=>tA v (List.mem_of_mem_take hv)
        have gQ:=run_copy_row (P:=P) w t tt type e r.cZ (r.sh+o) n' c' ⟨b,ob,none⟩ m cc c e2 (ys.take (Nat.min m n')) ht hz a3 aw
         (λj v hj=>by
          rw [getElem?_take] at hj
          split at hj
          ·rw [Addr.add_lit];exact Qn j v hj
          ·cases hj) (by have:=a5.le;rw [aw,a2];omega) (tO.zx CA)
        rw [aw,a2,zero_add] at gQ
        have heq:(c.toList.take o++ys.take (Nat.min m n')++c.toList.drop (o+Nat.min m n')).toArray=(setAt c.toList o (ys.take (Nat.min m n'))).toArray:=by simp only [setAt,aw]
        rw [heq] at gQ
        have jF:fC h i:=.inl ⟨e2,xs,hg⟩
        obtain ⟨q1,q2⟩:=H.set (o:=.arr e2 (setAt xs o (cs.take (Nat.min m n')))) hr jF (lP.row a3 (setAt c.toList o (ys.take (Nat.min m n'))).toArray)
         ⟨a1,a2,_,(lP.row a3 _).here,by simp [DW (show o+(ys.take (Nat.min m n')).length<=c.toList.length by have:=a5.le;simp only [Array.length_toList];omega),a4],a5.put tO CA (by omega)⟩
        refine ⟨_,?_,.int _ _,q1,q2⟩
        rw [a2,zero_add];exact gQ
     ·cases hi
    ·cases hi
   ·cases hi
 ·cases hi
theorem aJu (w:World) (dT sT ty elem:TypeId) (g o AA Pc:Nat) (a:Addr) (By UX:Nat) (cur:Array Value) (t:TypeId) (cs:List Value) {k:Nat}
  (hu:P.underlying dT=some (.slice elem)) (hs:(P.info? elem).map (·.size)=some k)
  (hg:w.heap[g]?=some (.cells cur t (0,0))) (hn:cs.length=Nat.min By AA*k)
  (aBz:∀j v,cs[j]?=some v->w.cell? (a.add j)=some v) (uX:o+cs.length<=cur.size) (h1:∀v∈cs,v.oneCell'=true):
  (Builtin.copy_ #[dT,sT] ty #[.slice (some ⟨g,o,none⟩) AA Pc,.slice (some a) By UX]).run P w=
   .ok (goInt (Nat.min By AA:Nat)) (w.setRow g (cur.toList.take o++cs++cur.toList.drop (o+cs.length)).toArray):=by
 have hl:=run_loadCells_list (P:=P) w a cs aBz
 have jv:=run_storeCells_at P g o t cs 0 cur w hg (by simpa using uX) h1
 rw [hn] at hl
 cases hq:P.info? elem with
 | none=>simp [hq] at hs
 | some i=>
  have hi:i.size=k:=by simpa [hq] using hs
  simp [Builtin.copy_,run_underlying hu,Builtin.lenOf,Builtin.firstCells,sizeOf,typeInfo,hq,hi,hl,jv]
theorem aJt (w:World) (dT sT ty elem:TypeId) (d a:Option Addr) (AA Pc By UX:Nat) {k:Nat} (hu:P.underlying dT=some (.slice elem)) (hs:(P.info? elem).map (·.size)=some k) (hn:Nat.min By AA=0):
  (Builtin.copy_ #[dT,sT] ty #[.slice d AA Pc,.slice a By UX]).run P w=.ok (goInt 0) w:=by
 cases hq:P.info? elem with
 | none=>simp [hq] at hs
 | some i=>
  have hl:∀(x:Addr),(loadCells x 0).run P w=.ok #[] w:=λx=>by simpa using run_loadCells_list (P:=P) w x [] (by simp)
  cases d <;> cases a <;> simp [Builtin.copy_,run_underlying hu,Builtin.lenOf,Builtin.firstCells,sizeOf,typeInfo,hq,hn,storeCells,hl]
theorem aJI (H:bN P ρ h w) {t e tt:TypeId} {type:TypeId} {d x d' x' v:Value} {h':ae} (ht:P.underlying t=some (.slice e)) {k:Nat} (hz:(P.info? e).map (·.size)=some k) (hi:rA k h d x=some (v,h')) (hd:aK ρ d d') (hx:aK ρ x x'):
  ∃w',(Builtin.copy_ #[t,tt] type #[d',x']).run P w=.ok v w'/\aK ρ v v/\bN P ρ h' w'/\Tr ρ h w ρ h' w':=by
 unfold rA at hi
 split at hi
 ·rename_i n m cs hn hm mQ
  have tD:∃p c,d'=.slice p n c:=by
   unfold iY at hn
   split at hn
   ·cases hd;cases hn;exact ⟨_,_,rfl⟩
   ·cases hd;cases hn;exact ⟨_,_,rfl⟩
   ·cases hn
  have iI:∃p c,x'=.slice p m c:=by
   unfold iY at hm
   split at hm
   ·cases hx;cases hm;exact ⟨_,_,rfl⟩
   ·cases hx;cases hm;exact ⟨_,_,rfl⟩
   ·cases hm
  split at hi
  ·rename_i h0
   simp at hi
   obtain ⟨rfl,rfl⟩:=hi
   obtain ⟨p,c,rfl⟩:=tD
   obtain ⟨q,c',rfl⟩:=iI
   exact ⟨w,aJt (P:=P) w t tt type e p q n c m c' ht hz h0,.int _ _,H,.refl H⟩
  ·rename_i h0
   split at hi
   ·rename_i i o e' n' c0
    split at hi
    ·rename_i e2 xs hg
     split at hi
     ·rename_i hle
      simp only [Option.some.injEq,Prod.mk.injEq] at hi
      obtain ⟨rfl,rfl⟩:=hi
      cases hd with
      | slice hr ho qj hc hb ek=>
       rename_i o' c' r
       simp [iY] at hn
       subst hn
       have iP:0<n':=by
        have:Nat.min m n'<=n':=Nat.min_le_right _ _
        omega
       have fU:o'=r.sh+o:=by
        rcases ho with ho | ⟨q1,q2,q3⟩
        ·exact ho
        ·omega
       subst fU
       obtain ⟨a1,a2,c,a3,a4,a5⟩:=H.arr hr hg
       rcases D2 H mQ hx with ⟨rfl,rfl⟩ | ⟨b,ob,nn,cc,rfl,hl,hlen,tA,ys,Dk,Qn⟩
       ·obtain ⟨q,c',hq⟩:=iI
        cases hq
        exact absurd (Nat.zero_min n') h0
       ·rw [hm] at hl
        cases hl
        have hmk:Nat.min m n'*k<=m*k:=Nat.mul_le_mul_right _ (Nat.min_le_left _ _)
        have QU:=Dk.length
        have aw:(ys.take (Nat.min m n'*k)).length=Nat.min m n'*k:=by
         rw [List.length_take,<-QU,hlen];exact Nat.min_eq_left hmk
        have hct:(cs.take (Nat.min m n'*k)).length=Nat.min m n'*k:=by
         rw [List.length_take,hlen];exact Nat.min_eq_left hmk
        have tO:dw ρ (cs.take (Nat.min m n'*k)) (ys.take (Nat.min m n'*k)):=Dk.take _
        have CA:∀v∈cs.take (Nat.min m n'*k),jx v=true:=λv hv=>tA v (List.mem_of_mem_take hv)
        have gQ:=aJu (P:=P) w t tt type e r.cZ (r.sh+o) n' c' ⟨b,ob,none⟩ m cc c e2 (ys.take (Nat.min m n'*k)) ht hz a3 aw
         (λj v hj=>by
          rw [getElem?_take] at hj
          split at hj
          ·rw [Addr.add_lit];exact Qn j v hj
          ·cases hj) (by have:=a5.le;rw [aw,a2];omega) (tO.zx CA)
        rw [aw,a2,zero_add] at gQ
        have heq:(c.toList.take o++ys.take (Nat.min m n'*k)++c.toList.drop (o+Nat.min m n'*k)).toArray=(setAt c.toList o (ys.take (Nat.min m n'*k))).toArray:=by simp only [setAt,aw]
        rw [heq] at gQ
        have jF:fC h i:=.inl ⟨e2,xs,hg⟩
        obtain ⟨q1,q2⟩:=H.set (o:=.arr e2 (setAt xs o (cs.take (Nat.min m n'*k)))) hr jF (lP.row a3 (setAt c.toList o (ys.take (Nat.min m n'*k))).toArray)
         ⟨a1,a2,_,(lP.row a3 _).here,by simp [DW (show o+(ys.take (Nat.min m n'*k)).length<=c.toList.length by have:=a5.le;simp only [Array.length_toList];omega),a4],a5.put tO CA (by omega)⟩
        refine ⟨_,?_,.int _ _,q1,q2⟩
        rw [a2,zero_add];exact gQ
     ·cases hi
    ·cases hi
   ·cases hi
 ·cases hi
end
end
section
theorem lP.obj {w:World} {g:Nat} {x:Obj} (hg:w.heap[g]?=some x) (b:Obj):lP w g b { w with heap:=w.heap.setIfInBounds g b } where
 here:=by
  have:=(Array.getElem?_eq_some_iff.1 hg).1
  simp [this]
 other:=by intro j hj;simp [Ne.symm hj]
 size:=by simp
 os:=rfl
 tape:=rfl
 output:=rfl
 drawn:=le_refl _
theorem aAe {ρ:bk} {es:List (ByteArray×Value)} {bn:List MapEntry} (h:oX ρ es bn) (k:ByteArray) {v v':Value} (hv:aK ρ v v') (born:Nat):∀i:Nat,
  (Instr.findNow .string (.string k) bn i=some none/\oX ρ (sJ k v es) (bn++[{ key:=.string k,val:=v',born }]))∨
  (∃u j,Instr.findNow .string (.string k) bn i=some (some (i+j,u))/\(∃en,bn[j]?=some en/\en.key=.string k)/\oX ρ (sJ k v es) (bn.modify j λe=>{ e with key:=.string k,val:=v' })):=by
 induction h with
 | nil=>intro i;exact .inl ⟨rfl,.cons rfl hv .nil⟩
 | cons h1 h2 h3 ih=>
  rename_i k0 v0 en es bn
  intro i
  by_cases hk:k=k0
  ·subst hk
   have hb:(k==k)=true:=(MapKept.bytes_beq k k).2 rfl
   refine .inr ⟨en.val,0,?_,⟨en,rfl,h1⟩,?_⟩
   ·simp [Instr.findNow,h1,Instr.sameNow,hb]
   ·simp only [sJ,if_true,List.modify_zero_cons]
    exact .cons rfl hv h3
  ·have hb:(k==k0)=false:=by
    rw [Bool.eq_false_iff]
    exact λe=>hk ((MapKept.bytes_beq k k0).1 e)
   rcases ih (i+1) with ⟨e1,e2⟩ | ⟨u,j,e1,e2,e3⟩
   ·refine .inl ⟨?_,?_⟩
    ·simp [Instr.findNow,h1,Instr.sameNow,hb,e1]
    ·simp only [sJ,if_neg hk,List.cons_append]
     exact .cons h1 h2 e2
   ·refine .inr ⟨u,j+1,?_,by simpa using e2,?_⟩
    ·simp [Instr.findNow,h1,Instr.sameNow,hb,e1];omega
    ·simp only [sJ,if_neg hk,List.modify_succ_cons]
     exact .cons h1 h2 e3
theorem aAf {kd:IntKind} {ρ:bk} {es:List (Int×Value)} {bn:List MapEntry} (h:oY kd ρ es bn) (k:Int) {v v':Value} (hv:aK ρ v v') (born:Nat):∀i:Nat,
  (Instr.findNow (.int kd) (.int kd k) bn i=some none/\oY kd ρ (sI k v es) (bn++[{ key:=.int kd k,val:=v',born }]))∨
  (∃u j,Instr.findNow (.int kd) (.int kd k) bn i=some (some (i+j,u))/\(∃en,bn[j]?=some en/\en.key=.int kd k)/\oY kd ρ (sI k v es) (bn.modify j λe=>{ e with key:=.int kd k,val:=v' })):=by
 induction h with
 | nil=>intro i;exact .inl ⟨rfl,.cons rfl hv .nil⟩
 | cons h1 h2 h3 ih=>
  rename_i k0 v0 en es bn
  intro i
  by_cases hk:k=k0
  ·subst hk
   have hb:(k==k)=true:=beq_self_eq_true k
   refine .inr ⟨en.val,0,?_,⟨en,rfl,h1⟩,?_⟩
   ·simp [Instr.findNow,h1,Instr.sameNow]
   ·simp only [sI,if_true,List.modify_zero_cons]
    exact .cons rfl hv h3
  ·have hb:(k==k0)=false:=by
    exact beq_false_of_ne hk
   rcases ih (i+1) with ⟨e1,e2⟩ | ⟨u,j,e1,e2,e3⟩
   ·refine .inl ⟨?_,?_⟩
    ·simp [Instr.findNow,h1,Instr.sameNow,hb,e1]
    ·simp only [sI,if_neg hk,List.cons_append]
     exact .cons h1 h2 e2
   ·refine .inr ⟨u,j+1,?_,by simpa using e2,?_⟩
    ·simp [Instr.findNow,h1,Instr.sameNow,hb,e1];omega
    ·simp only [sI,if_neg hk,List.modify_succ_cons]
     exact .cons h1 h2 e3
section
variable {P : Program} {w : World} {ρ : bk} {h : ae}
theorem aJV (H:bN P ρ h w) (t:TypeId):∃w' aN v',(Instr.makeMap t none).run P w=.ok v' w'/\aK aN (.map (some h.length)) v'/\bN P aN (h++[.smap []]) w'/\Tr ρ h w aN (h++[.smap []]) w':=by
 have nb:=kJ.alloc w (.map #[] 0)
 obtain ⟨q1,q2⟩:=H.new (h₀:=h) (o:=.smap []) (r:=⟨w.heap.size,0,0,P.cellsOf 0,0⟩) nb rfl rfl rfl (λ_=>.inl rfl) ⟨#[],0,nb.new,rfl,λj k v hj=>by simp at hj⟩
 refine ⟨_,_,.map (some w.heap.size),?_,aK.map (Aq _ _ _),q1,q2⟩
 simp [Instr.makeMap]
theorem aJX (H:bN P ρ h w) (t:TypeId) (kd:IntKind):∃w' aN v',(Instr.makeMap t none).run P w=.ok v' w'/\aK aN (.map (some h.length)) v'/\bN P aN (h++[.mU kd []]) w'/\Tr ρ h w aN (h++[.mU kd []]) w':=by
 have nb:=kJ.alloc w (.map #[] 0)
 obtain ⟨q1,q2⟩:=H.new (h₀:=h) (o:=.mU kd []) (r:=⟨w.heap.size,0,0,P.cellsOf 0,0⟩) nb rfl rfl rfl (λ_=>.inl rfl) ⟨#[],0,nb.new,rfl,λj k v hj=>by simp at hj⟩
 refine ⟨_,_,.map (some w.heap.size),?_,aK.map (Aq _ _ _),q1,q2⟩
 simp [Instr.makeMap]
theorem xd {g:Nat} {bn:Array MapEntry} {clock:Nat} (hg:w.heap[g]?=some (.map bn clock)) (o:Obj):(setObj g o).run P w=.ok () { w with heap:=w.heap.setIfInBounds g o }:=by
 simp [setObj,Sem.run,hg]
theorem anz (H:bN P ρ h w) {t kt et:TypeId} {m m' k k' v v':Value} {h':ae} (ht:P.underlying t=some (.map kt et)) (hk:isString P kt=true)
  (hi:Q2 h m k v=some h') (hm:aK ρ m m') (qh:aK ρ k k') (hv:aK ρ v v'):∃w',(Instr.mapUpdate t m' k' v').run P w=.ok () w'/\bN P ρ h' w'/\Tr ρ h w ρ h' w':=by
 unfold Q2 at hi
 split at hi
 ·rename_i i key
  rw [qh.vP]
  cases hm with
  | map hr=>
   rename_i r
   split at hi
   ·rename_i es he
    simp at hi;subst hi
    obtain ⟨bn,clock,hb,yD⟩:=H.bn hr he
    have mR:=afP hk
    have jF:fC h i:=.inr (.inl ⟨es,he⟩)
    have mk:∀(qe:Array MapEntry) (rU:Nat),oX ρ (sJ key v es) qe.toList->bN P ρ (h.set i (.smap (sJ key v es))) { w with heap:=w.heap.setIfInBounds r.cZ (.map qe rU) }/\
      Tr ρ h w ρ (h.set i (.smap (sJ key v es))) { w with heap:=w.heap.setIfInBounds r.cZ (.map qe rU) }:=by
     intro qe rU qg
     have sb:=lP.obj hb (.map qe rU)
     have:=qg.to
     exact H.set (o:=.smap (sJ key v es)) hr jF sb ⟨qe,rU,sb.here,by simpa using this.1,by simpa using this.2⟩
    rcases aAe yD key hv clock 0 with ⟨e1,e2⟩ | ⟨u,j,e1,⟨en,e2,tg⟩,e3⟩
    ·obtain ⟨q1,q2⟩:=mk (bn.push { key:=.string key,val:=v',born:=clock }) (clock+1) (by simpa using e2)
     refine ⟨_,?_,q1,q2⟩
     simp [Instr.mapUpdate,run_underlying ht,run_getObj_map hb,run_checkKey _ mR,run_findKey mR key _ e1,xd hb]
    ·obtain ⟨q1,q2⟩:=mk (bn.modify j λe=>{ e with key:=.string key,val:=v' }) clock (by simpa using e3)
     refine ⟨_,?_,q1,q2⟩
     have dE:bn[j]?=some en:=by simpa using e2
     have QH:Instr.sameBits 10000 (.string key) (.string key)=true:=by
      simp [Instr.sameBits,(MapKept.bytes_beq key key).2 rfl]
     have Da:(Instr.keyThatStays (((bn[j]?).map (·.key)).getD (.string key)) (.string key)).run P w=.ok (.string key) w:=by
      rw [dE]
      simp [Instr.keyThatStays,tg,QH]
     simp only [Instr.mapUpdate,Sem.run_bind,run_underlying ht,Result.andThen_ok,run_getObj_map hb,run_checkKey _ mR,run_findKey mR key _ e1]
     simp only [zero_add,Da,Result.andThen_ok,xd hb]
   ·cases hi
 ·cases hi
theorem anB (H:bN P ρ h w) {t kt et:TypeId} {kd:IntKind} {m m' k k' v v':Value} {h':ae} (ht:P.underlying t=some (.map kt et)) (hk:zf P kt=some kd)
  (hi:Q4 kd h m k v=some h') (hm:aK ρ m m') (qh:aK ρ k k') (hv:aK ρ v v'):∃w',(Instr.mapUpdate t m' k' v').run P w=.ok () w'/\bN P ρ h' w'/\Tr ρ h w ρ h' w':=by
 unfold Q4 at hi
 split at hi
 ·rename_i i Bd key
  rw [qh.kT]
  cases hm with
  | map hr=>
   rename_i r
   split at hi
   ·rename_i nZ es he
    split at hi
    ·rename_i px
     obtain ⟨rfl,rfl⟩:=px
     simp at hi;subst hi
     obtain ⟨bn,clock,hb,yD⟩:=H.adN hr he
     have mR:=afO hk
     have jF:fC h i:=.inr (.inr (.inr (.inl ⟨_,es,he⟩)))
     have mk:∀(qe:Array MapEntry) (rU:Nat),oY nZ ρ (sI key v es) qe.toList->bN P ρ (h.set i (.mU nZ (sI key v es))) { w with heap:=w.heap.setIfInBounds r.cZ (.map qe rU) }/\
       Tr ρ h w ρ (h.set i (.mU nZ (sI key v es))) { w with heap:=w.heap.setIfInBounds r.cZ (.map qe rU) }:=by
      intro qe rU qg
      have sb:=lP.obj hb (.map qe rU)
      have:=qg.to
      exact H.set (o:=.mU nZ (sI key v es)) hr jF sb ⟨qe,rU,sb.here,by simpa using this.1,by simpa using this.2⟩
     rcases aAf yD key hv clock 0 with ⟨e1,e2⟩ | ⟨u,j,e1,⟨en,e2,tg⟩,e3⟩
     ·obtain ⟨q1,q2⟩:=mk (bn.push { key:=.int nZ key,val:=v',born:=clock }) (clock+1) (by simpa using e2)
      refine ⟨_,?_,q1,q2⟩
      simp [Instr.mapUpdate,run_underlying ht,run_getObj_map hb,JT _ mR,JU mR key _ e1,xd hb]
     ·obtain ⟨q1,q2⟩:=mk (bn.modify j λe=>{ e with key:=.int nZ key,val:=v' }) clock (by simpa using e3)
      refine ⟨_,?_,q1,q2⟩
      have dE:bn[j]?=some en:=by simpa using e2
      have QH:∀kd,Instr.sameBits 10000 (.int kd key) (.int kd key)=true:=by
       intro kd
       simp [Instr.sameBits]
      have Da:(Instr.keyThatStays (((bn[j]?).map (·.key)).getD (.int nZ key)) (.int nZ key)).run P w=.ok (.int nZ key) w:=by
       rw [dE]
       simp [Instr.keyThatStays,tg,QH]
      simp only [Instr.mapUpdate,Sem.run_bind,run_underlying ht,Result.andThen_ok,run_getObj_map hb,JT _ mR,JU mR key _ e1]
      simp only [zero_add,Da,Result.andThen_ok,xd hb]
    ·cases hi
   ·cases hi
 ·cases hi
theorem aJW (H:bN P ρ h w) (t:TypeId) (g:jc):∃w' aN v',(Instr.makeMap t none).run P w=.ok v' w'/\aK aN (.map (some h.length)) v'/\bN P aN (h++[.jQ g 0 []]) w'/\Tr ρ h w aN (h++[.jQ g 0 []]) w':=by
 have nb:=kJ.alloc w (.map #[] 0)
 obtain ⟨q1,q2⟩:=H.new (h₀:=h) (o:=.jQ g 0 []) (r:=⟨w.heap.size,0,0,P.cellsOf 0,0⟩) nb rfl rfl rfl (λ_=>.inl rfl) ⟨by simp,#[],nb.new,rfl,λj b k v hj=>by simp at hj⟩
 refine ⟨_,_,.map (some w.heap.size),?_,aK.map (Aq _ _ _),q1,q2⟩
 simp [Instr.makeMap]
theorem rP.set {g:jc} {c:Nat} {es:List (Nat×Value×Value)} {bn:Array MapEntry} (E:rP ρ g es bn) {k v v':Value} (hk:iG g k=true) (hv:aK ρ v v'):
  (rI k es=none->rP ρ g (es++[(c,k,v)]) (bn.push { key:=k,val:=v',born:=c }))/\∀j b u,rI k es=some j->es[j]?=some (b,k,u)->rP ρ g (es.modify j λe=>(e.1,k,v)) (bn.modify j λe=>{ e with key:=k,val:=v' }):=by
 constructor
 ·intro hp
  have jR:∀e∈es,e.2.1≠k:=by
   rcases JJ hk es with ⟨_,h2⟩ | ⟨j,e,h1,_⟩
   ·exact h2
   ·rw [hp] at h1;cases h1
  refine ⟨by simp [E.size],?_,?_⟩
  ·rw [List.map_append,List.nodup_append]
   refine ⟨E.nodup,by simp,?_⟩
   intro a ha b hb
   obtain ⟨e,he,rfl⟩:=List.mem_map.1 ha
   simp at hb
   subst hb
   exact jR e he
  ·intro j b k1 v1 hj
   by_cases aw:j<es.length
   ·rw [getElem?_append_left aw] at hj
    obtain ⟨g1,en,g2,g3⟩:=E.get j b k1 v1 hj
    exact ⟨g1,en,by rw [Array.getElem?_push_lt (by rw [E.size];exact aw)];rw [getElem?_eq_getElem (by rw [E.size];exact aw)] at g2;exact g2,g3⟩
   ·rw [List.getElem?_append_right (by omega)] at hj
    have tI:j=es.length:=by
     have:=(cm hj).1
     simp at this
     omega
    subst tI
    simp at hj
    obtain ⟨rfl,rfl,rfl⟩:=hj
    exact ⟨hk,{ key:=k,val:=v',born:=c },by rw [<-E.size];simp,rfl,rfl,hv⟩
 ·intro j b u hp hj
  have aA7:((es.modify j λe=>(e.1,k,v)).map λe=>e.2.1)=es.map λe=>e.2.1:=by
   apply List.ext_getElem?
   intro i
   simp only [List.getElem?_map,List.getElem?_modify]
   by_cases gE:j=i
   ·subst gE;simp [hj]
   ·simp [gE]
  refine ⟨by simp [E.size],by rw [aA7];exact E.nodup,?_⟩
  intro i b1 k1 v1 hi
  rw [List.getElem?_modify] at hi
  by_cases gE:j=i
  ·subst gE
   simp [hj] at hi
   obtain ⟨rfl,rfl,rfl⟩:=hi
   obtain ⟨g1,en,g2,g3,g4,_⟩:=E.get j b k u hj
   refine ⟨hk,{ en with key:=k,val:=v' },?_,rfl,g4,hv⟩
   rw [Array.getElem?_modify]
   simp [g2]
  ·simp [gE] at hi
   obtain ⟨g1,en,g2,g3⟩:=E.get i b1 k1 v1 hi
   refine ⟨g1,en,?_,g3⟩
   rw [Array.getElem?_modify]
   simp [gE,g2]
theorem anA (H:bN P ρ h w) {t:TypeId} {g:jc} {m m' k k' v v':Value} {h':ae} (hg:qS P t=some g)
  (hi:Q3 g h m k v=some h') (hm:aK ρ m m') (qh:aK ρ k k') (hv:aK ρ v v'):∃w',(Instr.mapUpdate t m' k' v').run P w=.ok () w'/\bN P ρ h' w'/\Tr ρ h w ρ h' w':=by
 obtain ⟨kt,et,ht,L⟩:=HS hg
 unfold Q3 at hi
 split at hi
 ·rename_i i
  cases hm with
  | map hr=>
   rename_i r
   split at hi
   ·rename_i g' c es he
    split at hi
    ·rename_i px
     obtain ⟨rfl,hk,_⟩:=px
     simp at hi;subst hi
     rw [qh.key hk]
     obtain ⟨bn,hb,E⟩:=H.Cr hr he
     have jF:fC h i:=.inr (.inr (.inr (.inr (.inl ⟨_,_,es,he⟩))))
     obtain ⟨S1,S2⟩:=E.set (c:=c) hk hv
     rcases UO (w:=w) L E hk with ⟨⟨e1,_⟩,e2⟩ | ⟨j,b,u,en,e1,e2,e3,e4,e5,e6,e7⟩
     ·have E':=S1 e1
      have sb:=lP.obj hb (.map (bn.push { key:=k,val:=v',born:=c }) (c+1))
      have nG:zH c k v es=es++[(c,k,v)]:=by simp [zH,e1]
      have P0:ya c k es=c+1:=by simp [ya,e1]
      obtain ⟨q1,q2⟩:=H.set (o:=.jQ g' (ya c k es) (zH c k v es)) hr jF sb (by rw [nG,P0];exact ⟨E'.nodup,_,sb.here,E'.size,E'.get⟩)
      refine ⟨_,?_,q1,q2⟩
      simp [Instr.mapUpdate,run_underlying ht,run_getObj_map hb,L.check w _ k hk,e2,xd hb]
     ·have E':=S2 j b u e1 e2
      have sb:=lP.obj hb (.map (bn.modify j λe=>{ e with key:=k,val:=v' }) c)
      have nG:zH c k v es=es.modify j λe=>(e.1,k,v):=by simp [zH,e1]
      have P0:ya c k es=c:=by simp [ya,e1]
      obtain ⟨q1,q2⟩:=H.set (o:=.jQ g' (ya c k es) (zH c k v es)) hr jF sb (by rw [nG,P0];exact ⟨E'.nodup,_,sb.here,E'.size,E'.get⟩)
      refine ⟨_,?_,q1,q2⟩
      have Da:(Instr.keyThatStays (((bn[j]?).map (·.key)).getD k) k).run P w=.ok k w:=by
       rw [e3]
       simp [e4,L.stays w k hk]
      simp only [Instr.mapUpdate,Sem.run_bind,run_underlying ht,Result.andThen_ok,run_getObj_map hb,L.check w _ k hk,e7]
      simp only [Da,Result.andThen_ok,xd hb]
    ·cases hi
   ·cases hi
 ·cases hi
theorem rP.era {g:jc} {es:List (Nat×Value×Value)} {bn:Array MapEntry} (E:rP ρ g es bn) {j:Nat} (hj:j<es.length):rP ρ g (es.eraseIdx j) (bn.eraseIdxIfInBounds j):=by
 have aw:j<bn.size:=by rw [E.size];exact hj
 have he:bn.eraseIdxIfInBounds j=bn.eraseIdx j aw:=by simp [Array.eraseIdxIfInBounds,aw]
 rw [he]
 refine ⟨by rw [Array.size_eraseIdx,List.length_eraseIdx,if_pos hj,E.size],?_,?_⟩
 ·refine List.Nodup.sublist ?_ E.nodup
  exact (List.eraseIdx_sublist _ _).map _
 ·intro i b k v hi
  rw [List.getElem?_eraseIdx] at hi
  split at hi
  ·rename_i gE
   obtain ⟨g1,en,g2,g3⟩:=E.get i b k v hi
   exact ⟨g1,en,by rw [Array.getElem?_eraseIdx,if_pos gE];exact g2,g3⟩
  ·rename_i gE
   obtain ⟨g1,en,g2,g3⟩:=E.get (i+1) b k v hi
   exact ⟨g1,en,by rw [Array.getElem?_eraseIdx,if_neg gE];exact g2,g3⟩
theorem aJJ (H:bN P ρ h w) {t ty:TypeId} {ts:Array TypeId} {g:jc} {m m' k k':Value} {h':ae} (hts:ts[0]?=some t) (hg:qS P t=some g)
  (hi:Q0 g h m k=some h') (hm:aK ρ m m') (qh:aK ρ k k'):∃w',(Builtin.delete_ ts ty #[m',k']).run P w=.ok (.tuple #[]) w'/\bN P ρ h' w'/\Tr ρ h w ρ h' w':=by
 obtain ⟨kt,et,ht,L⟩:=HS hg
 unfold Q0 at hi
 split at hi
 ·rename_i i
  cases hm with
  | map hr=>
   rename_i r
   split at hi
   ·rename_i g' c es he
    split at hi
    ·rename_i px
     obtain ⟨rfl,hk⟩:=px
     simp at hi;subst hi
     rw [qh.key hk]
     obtain ⟨bn,hb,E⟩:=H.Cr hr he
     have jF:fC h i:=.inr (.inr (.inr (.inr (.inl ⟨_,_,es,he⟩))))
     rcases UO (w:=w) L E hk with ⟨⟨e1,_⟩,e2⟩ | ⟨j,b,u,en,e1,e2,e3,e4,e5,e6,e7⟩
     ·have sb:=lP.obj hb (.map bn c)
      have nG:yf k es=es:=by simp [yf,e1]
      obtain ⟨q1,q2⟩:=H.set (o:=.jQ g' c (yf k es)) hr jF sb (by rw [nG];exact ⟨E.nodup,_,sb.here,E.size,E.get⟩)
      refine ⟨_,?_,q1,q2⟩
      simp [Builtin.delete_,hts,run_underlying ht,run_getObj_map hb,L.check w _ k hk,e2,xd hb]
     ·have E':=E.era (cm e2).1
      have sb:=lP.obj hb (.map (bn.eraseIdxIfInBounds j) c)
      have nG:yf k es=es.eraseIdx j:=by simp [yf,e1]
      obtain ⟨q1,q2⟩:=H.set (o:=.jQ g' c (yf k es)) hr jF sb (by rw [nG];exact ⟨E'.nodup,_,sb.here,E'.size,E'.get⟩)
      refine ⟨_,?_,q1,q2⟩
      simp [Builtin.delete_,hts,run_underlying ht,run_getObj_map hb,L.check w _ k hk,e7,xd hb]
    ·cases hi
   ·cases hi
 ·cases hi
theorem aJ0 (H:bN P ρ h w) {t:TypeId} {g:jc} {x x' v:Value} {h':ae} (hg:qS P t=some g) (hi:Q5 h x=some (v,h')) (hx:aK ρ x x'):
  ∃w' aN v',(Instr.range t x').run P w=.ok v' w'/\aK aN v v'/\bN P aN h' w'/\Tr ρ h w aN h' w':=by
 obtain ⟨kt,et,ht,L⟩:=HS hg
 unfold Q5 at hi
 split at hi
 ·rename_i i
  cases hx with
  | map hr=>
   rename_i r
   split at hi
   ·rename_i g' c es he
    simp at hi
    obtain ⟨rfl,rfl⟩:=hi
    obtain ⟨bn,hb,E⟩:=H.Cr hr he
    have nb:=kJ.alloc w (.mapIter (some r.cZ) c #[] c)
    have b7:i≠h.length:=by
     have:=(cm he).1
     omega
    obtain ⟨q1,q2⟩:=H.new (h₀:=h) (o:=.iter i c [] c) (r:=⟨w.heap.size,0,0,P.cellsOf 0,0⟩) nb rfl rfl rfl (λ_=>.inl rfl)
     ⟨rfl,r,by simp [bk.add,b7,hr],nb.new⟩
    refine ⟨_,_,.pointer (some ⟨w.heap.size,0,none⟩),?_,?_,q1,q2⟩
    ·simp [Instr.range,run_underlying ht,run_getObj_map hb,newObj,Sem.run,Result.andThen]
    ·exact aK.ptr (o:=0) (Aq _ _ _)
   ·cases hi
 ·cases hi
theorem kI.val {v v':Value} {h':ae} {s:Result Next} {w':World} {aN:bk} (e:s=.ok (.value v') w') (a:aK aN v v') (b:bN P aN h' w') (c:Tr ρ h w aN h' w'):kI P ρ h w v h' s:=
 ⟨_,_,_,_,e,.inl rfl,a,b,c⟩
theorem kI.skip {h':ae} {s:Result Next} {w':World} (e:s=.ok .skip w') (b:bN P ρ h' w') (c:Tr ρ h w ρ h' w'):kI P ρ h w undef h' s:=
 ⟨_,_,_,_,e,.inr ⟨rfl,rfl⟩,aK.undef _,b,c⟩
theorem az0 {o:Oper} {eo:pM} {g g':Operand->Value} (hc:jX P o.op=some eo) (bc:o.op.operands.all kF=true) (H:bN P ρ h w)
  (hg:∀x,kF x=true->aK ρ (g x) (g' x)) {v:Value} {h':ae} (hi:iS eo g h=some (v,h')):kI P ρ h w v h' ((execOp g' o).run P w):=by
 cases ho:o.op with
 | store t a x=>
  rw [ho] at hc bc
  simp [Op.operands] at bc
  simp only [jX] at hc
  split at hc
  ·rename_i hk
   simp at hc;subst hc
   simp only [iS,map_eq_some_iff,Prod.mk.injEq] at hi
   obtain ⟨aQ,hi,rfl,rfl⟩:=hi
   obtain ⟨w',q1,q2,q3⟩:=aJ3 H hk hi (hg a bc.1) (hg x bc.2)
   exact kI.skip (w':=w') (by simp [execOp,ho,q1]) q2 q3
  ·cases hc
 | box e x=>
  rw [ho] at hc bc
  simp [Op.operands] at bc
  simp [jX] at hc;subst hc
  obtain ⟨w',aN,v',q1,q2,q3,q4⟩:=aJE H hi (hg x bc)
  exact kI.val (v':=v') (w':=w') (by simp [execOp,ho,q1]) q2 q3 q4
 | alloc e=>
  rw [ho] at hc
  simp only [jX,map_eq_some_iff] at hc
  obtain ⟨zs,hz,rfl⟩:=hc
  simp [iS] at hi
  obtain ⟨rfl,rfl⟩:=hi
  obtain ⟨w',aN,v',q1,q2,q3,q4⟩:=aJB H hz
  exact kI.val (v':=v') (w':=w') (by simp [execOp,ho,q1]) q2 q3 q4
 | buildSlice t n ps=>
  rw [ho] at hc bc
  simp only [jX] at hc
  simp only [Op.operands] at bc
  split at hc
  ·rename_i e ht
   split at hc
   ·rename_i zs hz
    split at hc
    ·rename_i hb
     simp at hc;subst hc
     have hq:∀q∈ps.toList,kF q.2=true:=by
      intro q hm
      rw [Array.all_eq_true'] at bc
      exact bc q.2 (by simp;exact ⟨q.1,by simpa using hm⟩)
     have hp:=Uo hg (λi=>(i*P.cellsOf e,P.cellsOf e)) ps.toList hq
     obtain ⟨w',aN,v',q1,q2,q3,q4⟩:=aJY H ht hz hb.1 hb.2 (qs:=ps.map λ(i,x)=>(i,g' x)) (by simpa using hp) hi
     exact kI.val (v':=v') (w':=w') (by simp [execOp,ho,q1]) q2 q3 q4
    ·cases hc
   ·cases hc
  ·cases hc
 | makeSlice t l c=>
  rw [ho] at hc bc
  simp [Op.operands] at bc
  simp only [jX] at hc
  split at hc
  ·rename_i e ht
   split at hc
   ·rename_i zs hz
    simp at hc;subst hc
    obtain ⟨w',aN,v',q1,q2,q3,q4⟩:=aJU H ht hz hi (hg l bc.1) (hg c bc.2)
    exact kI.val (v':=v') (w':=w') (by simp [execOp,ho,q1]) q2 q3 q4
   ·cases hc
  ·cases hc
 | range t x=>
  rw [ho] at hc bc
  simp [Op.operands] at bc
  simp only [jX,map_eq_some_iff] at hc
  obtain ⟨g,lF,rfl⟩:=hc
  obtain ⟨w',aN,v',q1,q2,q3,q4⟩:=aJ0 H lF hi (hg x bc)
  exact kI.val (v':=v') (w':=w') (by simp [execOp,ho,q1]) q2 q3 q4
 | next it b=>
  rw [ho] at hc
  cases b with
  | false=>simp [jX] at hc;subst hc;simp [iS] at hi
  | true=>simp [jX] at hc
 | makeMap t r=>
  rw [ho] at hc
  cases r with
  | none=>
   cases lF:qS P t with
   | some g=>
    simp only [jX,lF,Option.some.injEq] at hc
    subst hc
    simp [iS] at hi
    obtain ⟨rfl,rfl⟩:=hi
    obtain ⟨w',aN,v',q1,q2,q3,q4⟩:=aJW H t g
    exact kI.val (v':=v') (w':=w') (by simp [execOp,ho,q1]) q2 q3 q4
   | none=>
   have two:eo=.mkMap∨∃kd,eo=.IZ kd:=by
    simp only [jX,lF] at hc
    split at hc
    ·split at hc
     ·simp at hc;exact .inr ⟨_,hc.symm⟩
     ·simp at hc;exact .inl hc.symm
    ·simp at hc;exact .inl hc.symm
   rcases two with rfl | ⟨kd,rfl⟩
   ·simp [iS] at hi
    obtain ⟨rfl,rfl⟩:=hi
    obtain ⟨w',aN,v',q1,q2,q3,q4⟩:=aJV H t
    exact kI.val (v':=v') (w':=w') (by simp [execOp,ho,q1]) q2 q3 q4
   ·simp [iS] at hi
    obtain ⟨rfl,rfl⟩:=hi
    obtain ⟨w',aN,v',q1,q2,q3,q4⟩:=aJX H t kd
    exact kI.val (v':=v') (w':=w') (by simp [execOp,ho,q1]) q2 q3 q4
  | some r=>simp [jX] at hc
 | mapUpdate t m k x=>
  rw [ho] at hc bc
  simp [Op.operands] at bc
  simp only [jX] at hc
  split at hc
  ·rename_i g lF
   simp at hc;subst hc
   simp only [iS,map_eq_some_iff,Prod.mk.injEq] at hi
   obtain ⟨aQ,hi,rfl,rfl⟩:=hi
   obtain ⟨w',q1,q2,q3⟩:=anA H lF hi (hg m bc.1) (hg k bc.2.1) (hg x bc.2.2)
   exact kI.skip (w':=w') (by simp [execOp,ho,q1]) q2 q3
  split at hc
  ·rename_i kt et ht
   split at hc
   ·rename_i hk
    simp at hc;subst hc
    simp only [iS,map_eq_some_iff,Prod.mk.injEq] at hi
    obtain ⟨aQ,hi,rfl,rfl⟩:=hi
    obtain ⟨w',q1,q2,q3⟩:=anz H ht hk hi (hg m bc.1) (hg k bc.2.1) (hg x bc.2.2)
    exact kI.skip (w':=w') (by simp [execOp,ho,q1]) q2 q3
   ·simp only [map_eq_some_iff] at hc
    obtain ⟨kd,px,rfl⟩:=hc
    simp only [iS,map_eq_some_iff,Prod.mk.injEq] at hi
    obtain ⟨aQ,hi,rfl,rfl⟩:=hi
    obtain ⟨w',q1,q2,q3⟩:=anB H ht px hi (hg m bc.1) (hg k bc.2.1) (hg x bc.2.2)
    exact kI.skip (w':=w') (by simp [execOp,ho,q1]) q2 q3
  ·cases hc
 | insert t m k x=>
  rw [ho] at hc bc
  simp [Op.operands] at bc
  simp only [jX] at hc
  split at hc
  ·rename_i g lF
   simp at hc;subst hc
   simp only [iS,map_eq_some_iff,Prod.mk.injEq] at hi
   obtain ⟨aQ,hi,rfl,rfl⟩:=hi
   obtain ⟨w',q1,q2,q3⟩:=anA H lF hi (hg m bc.1) (hg k bc.2.1) (hg x bc.2.2)
   exact kI.skip (w':=w') (by simp [execOp,ho,q1]) q2 q3
  split at hc
  ·rename_i kt et ht
   split at hc
   ·rename_i hk
    simp at hc;subst hc
    simp only [iS,map_eq_some_iff,Prod.mk.injEq] at hi
    obtain ⟨aQ,hi,rfl,rfl⟩:=hi
    obtain ⟨w',q1,q2,q3⟩:=anz H ht hk hi (hg m bc.1) (hg k bc.2.1) (hg x bc.2.2)
    exact kI.skip (w':=w') (by simp [execOp,ho,q1]) q2 q3
   ·simp only [map_eq_some_iff] at hc
    obtain ⟨kd,px,rfl⟩:=hc
    simp only [iS,map_eq_some_iff,Prod.mk.injEq] at hi
    obtain ⟨aQ,hi,rfl,rfl⟩:=hi
    obtain ⟨w',q1,q2,q3⟩:=anB H ht px hi (hg m bc.1) (hg k bc.2.1) (hg x bc.2.2)
    exact kI.skip (w':=w') (by simp [execOp,ho,q1]) q2 q3
  ·cases hc
 | call c=>
  rw [ho] at hc bc
  obtain ⟨callee,args,argTypes⟩:=c
  cases callee with
  | builtin b=>
   cases b with
   | append=>
    simp only [jX] at hc
    split at hc
    ·rename_i s x t t' hx vn
     obtain rfl:args=#[s,x]:=ext' hx
     obtain rfl:argTypes=#[t,t']:=ext' vn
     simp [Op.operands,Call.operands] at bc
     split at hc
     ·rename_i hte
      subst hte
      split at hc
      ·rename_i e ht
       split at hc
       ·rename_i zs hz
        simp at hc;subst hc
        obtain ⟨w',aN,v',q1,q2,q3,q4⟩:=aJC (type:=o.type) H ht hz hi (hg s bc.1) (hg x bc.2)
        exact kI.val (v':=v') (w':=w') (by simp [execOp,ho,resolve,invoke,builtin,q1]) q2 q3 q4
       ·cases hc
      ·cases hc
     ·cases hc
    ·cases hc
   | copy=>
    simp only [jX] at hc
    split at hc
    ·rename_i d x t t' hx vn
     obtain rfl:args=#[d,x]:=ext' hx
     obtain rfl:argTypes=#[t,t']:=ext' vn
     simp [Op.operands,Call.operands] at bc
     split at hc
     ·rename_i e ht
      split at hc
      ·rename_i hz
       simp at hc;subst hc
       obtain ⟨w',q1,q2,q3,q4⟩:=aJH (tt:=t') (type:=o.type) H ht hz hi (hg d bc.1) (hg x bc.2)
       exact kI.val (v':=v) (w':=w') (by simp [execOp,ho,resolve,invoke,builtin,q1]) q2 q3 q4
      ·split at hc
       ·rename_i ii hz
        simp at hc;subst hc
        obtain ⟨w',q1,q2,q3,q4⟩:=aJI (tt:=t') (type:=o.type) H ht (k:=ii.size) (by rw [hz];rfl) hi (hg d bc.1) (hg x bc.2)
        exact kI.val (v':=v) (w':=w') (by simp [execOp,ho,resolve,invoke,builtin,q1]) q2 q3 q4
       ·cases hc
     ·cases hc
    ·cases hc
   | delete=>
    simp only [jX] at hc
    split at hc
    ·rename_i m k t hx vn
     obtain rfl:args=#[m,k]:=ext' hx
     simp [Op.operands,Call.operands] at bc
     simp only [map_eq_some_iff] at hc
     obtain ⟨g,lF,rfl⟩:=hc
     simp only [iS,map_eq_some_iff,Prod.mk.injEq] at hi
     obtain ⟨aQ,hi,rfl,rfl⟩:=hi
     obtain ⟨w',q1,q2,q3⟩:=aJJ (ty:=o.type) H vn lF hi (hg m bc.1) (hg k bc.2)
     exact kI.val (v':=.tuple #[]) (w':=w') (by simp [execOp,ho,resolve,invoke,builtin,q1]) (aK.undef _) q2 q3
    ·cases hc
   | _=>simp [jX] at hc
  | _=>simp [jX] at hc
 | panic x=>rw [ho] at hc;simp [jX] at hc;subst hc;simp [iS] at hi
 | makeInterface t x=>rw [ho] at hc;simp [jX] at hc;subst hc;simp [iS] at hi
 | _=>rw [ho] at hc;simp [jX] at hc
end
end
end Go.Sim
