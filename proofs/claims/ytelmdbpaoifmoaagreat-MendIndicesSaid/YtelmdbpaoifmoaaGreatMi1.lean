/-
  Part 1 of the texts behind a statement of this seat: Sim1, Sim2, Sim3, Sim4, Sim5, Sim6, Sim7, Sim8, Sim7d, Sim9, Sim9g, Sim10, Sim11, Sim12, Sim13, Sim14.
-/
import Derived.WalkKit
import Derived.Laws.Append
import Derived.Laws.AppendOwn
import Derived.Laws.MakeOwn
import Derived.Laws.BytesString
import Derived.RangeFuncRecord
import Derived.Lib.Bytealg
import Derived.WalkSpells
import Derived.WideKeyArr
import Derived.MapKept
import Derived.Laws.CopyRow
import Derived.Laws.IdiomCopy
namespace Go.Sim

structure RI where
 blk:Nat
 sh:Nat
 elem:TypeId
 esz:Nat
 size:Nat

abbrev RMap:=Nat→Option RI

structure LoopC where
 N:Nat
 ps:Array Tmp
 asg:Code
 body:Code

inductive GKind where
 | int (k:IntKind)
 | str
 | ints (n:Nat) (k:IntKind)
 deriving DecidableEq

def isIntV (k:IntKind):Value→Bool
 | .int k' _=>decide (k'=k)
 | _=>false

def inRange (k:IntKind):Value→Bool
 | .int _ n=>decide (k.min≤n)&&decide (n≤k.max)
 | _=>false

def gkIs:GKind→Value→Bool
 | .int k,v=>isIntV k v
 | .str,.string _=>true
 | .ints n k,.agg cs=>decide (cs.size=n)&&cs.toList.all fun v=>isIntV k v&&inRange k v
 | _,_=>false

inductive IObj where
 | ro (e:TypeId) (xs:List Value)
 | arr (e:TypeId) (xs:List Value)
 | smap (es:List (ByteArray×Value))
 | imap (kd:IntKind) (es:List (Int×Value))
 | gmap (g:GKind) (clock:Nat) (es:List (Nat×Value×Value))
 | iter (m since:Nat) (seen:List Nat) (last:Nat)
 | loop (c:LoopC) (ls:List Nat) (vs:List Value)
 | dead

abbrev Heap:=List IObj

abbrev bot:Value:=.complex .f32 0 0

def ofl:List Nat→List Value→Nat→Value
 | l::ls,v::vs,j=>match Nat.beq j l with | true=>v | false=>ofl ls vs j
 | _,_,_=>bot

theorem ofl_cons (l:Nat) (ls:List Nat) (v:Value) (vs:List Value) (j:Nat):ofl (l::ls) (v::vs) j=if j=l then v else ofl ls vs j:=by
 show (match Nat.beq j l with | true=>v | false=>ofl ls vs j)=_
 split
 ·rename_i h;rw [if_pos (Nat.eq_of_beq_eq_true h)]
 ·rename_i h;rw [if_neg (Nat.ne_of_beq_eq_false h)]

def isCell:Value→Bool
 | .agg _ | .tuple _ | .complex _ _ _=>false
 | _=>true

inductive VRel (ρ:RMap):Value→Value→Prop
 | bool (b:Bool):VRel ρ (.bool b) (.bool b)
 | int (k:IntKind) (n:Int):VRel ρ (.int k n) (.int k n)
 | string (s:ByteArray):VRel ρ (.string s) (.string s)
 | nilPtr:VRel ρ (.pointer none) (.pointer none)
 | nilSlice:VRel ρ (.slice none 0 0) (.slice none 0 0)
 | nilMap:VRel ρ (.map none) (.map none)
 | nilFunc:VRel ρ .nilFunc .nilFunc
 | nilIface:VRel ρ .nilIface .nilIface
 | ptr {i o:Nat} {r:RI}:ρ i=some r→VRel ρ (.pointer (some ⟨i,o,none⟩)) (.pointer (some ⟨r.blk,r.sh+o,none⟩))
 | slice {i o n o' c':Nat} {r:RI}:ρ i=some r→(o'=r.sh+o∨(n=0∧0<o∧c'=0))→n≤c'→c'≤maxLen→o'+c'*r.esz≤r.size→
   VRel ρ (.slice (some ⟨i,o,some r.elem⟩) n n) (.slice (some ⟨r.blk,o',none⟩) n c')
 | void (a:Addr):VRel ρ (.slice none 0 1) (.slice (some a) 0 0)
 | map {i:Nat} {r:RI}:ρ i=some r→VRel ρ (.map (some i)) (.map (some r.blk))
 | func (f:FuncId) {xs ys xs' ys':Array Value}:xs.size=xs'.size→ys.size=ys'.size→
   (∀(k:Nat) (x x':Value),xs[k]?=some x→xs'[k]?=some x'→VRel ρ x x')→
   (∀(k:Nat) (x x':Value),ys[k]?=some x→ys'[k]?=some x'→VRel ρ x x')→VRel ρ (.func (.func f) xs ys) (.func (.func f) xs' ys')
 | yield {i:Nat} {r:RI}:ρ i=some r→VRel ρ (.func (.yield i) #[] #[]) (.func (.yield r.blk) #[] #[])
 | agg {xs xs':Array Value}:xs.size=xs'.size→(∀x∈xs.toList,isCell x=true)→(∀(k:Nat) (x x':Value),xs[k]?=some x→xs'[k]?=some x'→VRel ρ x x')→VRel ρ (.agg xs) (.agg xs')
 | any (v:Value):VRel ρ (.complex .f32 0 0) v
 | tuple {xs xs':Array Value}:xs.size=xs'.size→(∀(k:Nat) (x x':Value),xs[k]?=some x→xs'[k]?=some x'→VRel ρ x x')→VRel ρ (.tuple xs) (.tuple xs')

def RMap.le (ρ ρ':RMap):Prop:=∀i r,ρ i=some r→ρ' i=some r

theorem RMap.le.refl (ρ:RMap):ρ.le ρ:=fun _ _ h=>h
theorem RMap.le.trans {a b c:RMap} (h:a.le b) (k:b.le c):a.le c:=fun i r e=>k i r (h i r e)

theorem VRel.mono {ρ ρ':RMap} (h:ρ.le ρ') {v v':Value} (hv:VRel ρ v v'):VRel ρ' v v':=by
 induction hv with
 | bool b=>exact .bool b
 | int k n=>exact .int k n
 | string s=>exact .string s
 | nilPtr=>exact .nilPtr
 | nilSlice=>exact .nilSlice
 | nilMap=>exact .nilMap
 | nilFunc=>exact .nilFunc
 | nilIface=>exact .nilIface
 | ptr hi=>exact .ptr (h _ _ hi)
 | slice hi a b c d=>exact .slice (h _ _ hi) a b c d
 | void a=>exact .void a
 | map hi=>exact .map (h _ _ hi)
 | func f a b _ _ ih1 ih2=>exact .func f a b (fun k x x' e e'=>ih1 k x x' e e') (fun k x x' e e'=>ih2 k x x' e e')
 | yield hi=>exact .yield (h _ _ hi)
 | agg a b _ ih=>exact .agg a b (fun k x x' e e'=>ih k x x' e e')
 | any v=>exact .any v
 | tuple a _ ih=>exact .tuple a (fun k x x' e e'=>ih k x x' e e')

theorem VRel.undef (ρ:RMap):VRel ρ undef undef:=.tuple rfl (fun k x x' e e'=>by simp at e)

inductive VsRel (ρ:RMap):List Value→List Value→Prop
 | nil:VsRel ρ [] []
 | cons {x y:Value} {xs ys:List Value}:VRel ρ x y→VsRel ρ xs ys→VsRel ρ (x::xs) (y::ys)

theorem VsRel.mono {ρ ρ':RMap} (h:ρ.le ρ') {xs ys:List Value} (hv:VsRel ρ xs ys):VsRel ρ' xs ys:=by
 induction hv with
 | nil=>exact .nil
 | cons a _ ih=>exact .cons (a.mono h) ih

theorem VsRel.length {ρ:RMap} {xs ys:List Value} (hv:VsRel ρ xs ys):xs.length=ys.length:=by
 induction hv with
 | nil=>rfl
 | cons _ _ ih=>simp [ih]

theorem VsRel.get {ρ:RMap} {xs ys:List Value} (hv:VsRel ρ xs ys):∀{k:Nat} {x:Value},xs[k]?=some x→∃y,ys[k]?=some y∧VRel ρ x y:=by
 induction hv with
 | nil=>intro k x h;simp at h
 | cons a _ ih=>
  intro k x h
  cases k with
  | zero=>simp at h;subst h;exact ⟨_,by simp,a⟩
  | succ k=>simp at h;obtain ⟨y,hy,hr⟩:=ih h;exact ⟨y,by simpa using hy,hr⟩

theorem VsRel.append {ρ:RMap} {xs ys xs' ys':List Value} (h:VsRel ρ xs ys) (h':VsRel ρ xs' ys'):VsRel ρ (xs++xs') (ys++ys'):=by
 induction h with
 | nil=>exact h'
 | cons a _ ih=>exact .cons a ih

theorem VsRel.of_get {ρ:RMap}:∀{xs ys:List Value},xs.length=ys.length→(∀(k:Nat) (x y:Value),xs[k]?=some x→ys[k]?=some y→VRel ρ x y)→VsRel ρ xs ys
 | [],[],_,_=>.nil
 | x::xs,y::ys,hl,h=>.cons (h 0 x y rfl rfl) (VsRel.of_get (by simpa using hl) fun k a b ha hb=>h (k+1) a b (by simpa using ha) (by simpa using hb))

theorem VsRel.take {ρ:RMap} {xs ys:List Value} (h:VsRel ρ xs ys):∀n,VsRel ρ (xs.take n) (ys.take n):=by
 induction h with
 | nil=>intro n;simp;exact .nil
 | cons a _ ih=>intro n;cases n with
  | zero=>exact .nil
  | succ n=>exact .cons a (ih n)

theorem VsRel.drop {ρ:RMap} {xs ys:List Value} (h:VsRel ρ xs ys):∀n,VsRel ρ (xs.drop n) (ys.drop n):=by
 induction h with
 | nil=>intro n;simp;exact .nil
 | cons a b ih=>intro n;cases n with
  | zero=>exact .cons a b
  | succ n=>exact ih n

theorem VsRel.set {ρ:RMap} {xs ys:List Value} (h:VsRel ρ xs ys) {v v':Value} (hv:VRel ρ v v'):∀n,VsRel ρ (xs.set n v) (ys.set n v'):=by
 induction h with
 | nil=>intro n;simp;exact .nil
 | cons a b ih=>intro n;cases n with
  | zero=>exact .cons hv b
  | succ n=>exact .cons a (ih n)

theorem VsRel.toArr {ρ:RMap} {xs xs':Array Value} (hs:xs.size=xs'.size) (h:∀(k:Nat) (x x':Value),xs[k]?=some x→xs'[k]?=some x'→VRel ρ x x'):VsRel ρ xs.toList xs'.toList:=
 VsRel.of_get (by simpa using hs) fun k x y hx hy=>h k x y (by simpa using hx) (by simpa using hy)

theorem VsRel.ofList {ρ:RMap} {xs xs':List Value} (h:VsRel ρ xs xs'):∀(k:Nat) (x x':Value),xs.toArray[k]?=some x→xs'.toArray[k]?=some x'→VRel ρ x x':=by
 intro k x x' hx hx'
 obtain ⟨y,hy,hr⟩:=h.get (k:=k) (x:=x) (by simpa using hx)
 simp at hx'
 rw [hy] at hx'
 cases hx'
 exact hr

theorem VRel.aggL {ρ:RMap} {xs xs':List Value} (h:VsRel ρ xs xs') (h1:∀x∈xs,isCell x=true):VRel ρ (.agg xs.toArray) (.agg xs'.toArray):=.agg (by simpa using h.length) (by simpa using h1) h.ofList
theorem VRel.tupleL {ρ:RMap} {xs xs':List Value} (h:VsRel ρ xs xs'):VRel ρ (.tuple xs.toArray) (.tuple xs'.toArray):=.tuple (by simpa using h.length) h.ofList

def vcells (v:Value):List Value:=v.cells.toList

def noTuple:Value→Bool
 | .tuple _ | .complex _ _ _=>false
 | _=>true

theorem VRel.cells {ρ:RMap} {v v':Value} (h:VRel ρ v v') (hn:noTuple v=true):VsRel ρ (vcells v) (vcells v'):=by
 cases h with
 | any _=>simp [noTuple] at hn
 | agg hs _ h=>exact VsRel.toArr hs h
 | bool b=>exact .cons (.bool b) .nil
 | int k n=>exact .cons (.int k n) .nil
 | string s=>exact .cons (.string s) .nil
 | nilPtr=>exact .cons .nilPtr .nil
 | nilSlice=>exact .cons .nilSlice .nil
 | nilMap=>exact .cons .nilMap .nil
 | nilFunc=>exact .cons .nilFunc .nil
 | nilIface=>exact .cons .nilIface .nil
 | ptr hi=>exact .cons (.ptr hi) .nil
 | slice hi a b c d=>exact .cons (.slice hi a b c d) .nil
 | void a=>exact .cons (.void a) .nil
 | map hi=>exact .cons (.map hi) .nil
 | func f a b c d=>exact .cons (.func f a b c d) .nil
 | yield hi=>exact .cons (.yield hi) .nil
 | tuple a b=>simp [noTuple] at hn

def isLive (h:Heap) (i:Nat):Prop:=∃o,h[i]?=some o∧o≠ .dead
def isMut (h:Heap) (i:Nat):Prop:=(∃e xs,h[i]?=some (.arr e xs))∨(∃es,h[i]?=some (.smap es))∨(∃c ls vs,h[i]?=some (.loop c ls vs))∨(∃kd es,h[i]?=some (.imap kd es))∨(∃g c es,h[i]?=some (.gmap g c es))∨(∃m s n l,h[i]?=some (.iter m s n l))

theorem isMut.live {h:Heap} {i:Nat} (hm:isMut h i):isLive h i:=by
 rcases hm with ⟨e,xs,hm⟩ | ⟨es,hm⟩ | ⟨c,ls,vs,hm⟩ | ⟨kd,es,hm⟩ | ⟨g,c,es,hm⟩ | ⟨m,s,n,l,hm⟩
 ·exact ⟨_,hm,by simp⟩
 ·exact ⟨_,hm,by simp⟩
 ·exact ⟨_,hm,by simp⟩
 ·exact ⟨_,hm,by simp⟩
 ·exact ⟨_,hm,by simp⟩
 ·exact ⟨_,hm,by simp⟩

def CellsRel (ρ:RMap) (c:Array Value) (sh:Nat) (xs:List Value):Prop:=∀(j:Nat) (x:Value),xs[j]?=some x→isCell x=true∧∃y,c[sh+j]?=some y∧VRel ρ x y

theorem VRel.oneCell {ρ:RMap} {v v':Value} (h:VRel ρ v v') (hc:isCell v=true):v'.oneCell'=true:=by
 cases h <;> first | rfl | simp [isCell] at hc

theorem VsRel.oneCell {ρ:RMap} {xs ys:List Value} (h:VsRel ρ xs ys) (h1:∀x∈xs,isCell x=true):∀y∈ys,y.oneCell'=true:=by
 induction h with
 | nil=>intro y hy;simp at hy
 | cons a _ ih=>
  intro y hy
  rcases List.mem_cons.1 hy with rfl | hy
  ·exact a.oneCell (h1 _ (by simp))
  ·exact ih (fun x hx=>h1 x (by simp [hx])) y hy

theorem VRel.cellsOne {ρ:RMap} {v v':Value} (h:VRel ρ v v') (ht:noTuple v=true):∀x∈vcells v,isCell x=true:=by
 cases h with
 | agg hs h1 h=>exact h1
 | tuple _ _=>simp [noTuple] at ht
 | any _=>simp [noTuple] at ht
 | _=>intro x hx;simp [vcells,Value.cells] at hx;subst hx;rfl

theorem CellsRel.of {ρ:RMap} {xs:List Value} {c:Array Value} (h:VsRel ρ xs c.toList) (h1:∀x∈xs,isCell x=true):CellsRel ρ c 0 xs:=by
 intro j x hj
 obtain ⟨y,hy,hr⟩:=h.get hj
 exact ⟨h1 x (List.mem_of_getElem? hj),y,by simpa using hy,hr⟩

def objRel (ρ:RMap) (w:World) (r:RI):IObj→Prop
 | .ro e xs=>r.elem=e∧∃c t fr,w.heap[r.blk]?=some (.cells c t fr)∧c.size=r.size∧CellsRel ρ c r.sh xs
 | .arr e xs=>r.elem=e∧r.sh=0∧∃c,w.heap[r.blk]?=some (.cells c e (0,0))∧c.size=r.size∧CellsRel ρ c 0 xs
 | .smap es=>∃ents clock,w.heap[r.blk]?=some (.map ents clock)∧ents.size=es.length∧
   ∀(j:Nat) (k:ByteArray) (v:Value),es[j]?=some (k,v)→∃en,ents[j]?=some en∧en.key=.string k∧VRel ρ v en.val
 | .imap kd es=>∃ents clock,w.heap[r.blk]?=some (.map ents clock)∧ents.size=es.length∧
   ∀(j:Nat) (k:Int) (v:Value),es[j]?=some (k,v)→∃en,ents[j]?=some en∧en.key=.int kd k∧VRel ρ v en.val
 | .gmap g clock es=>(es.map fun e=>e.2.1).Nodup∧∃ents,w.heap[r.blk]?=some (.map ents clock)∧ents.size=es.length∧
   ∀(j b:Nat) (k v:Value),es[j]?=some (b,k,v)→gkIs g k=true∧∃en,ents[j]?=some en∧en.key=k∧en.born=b∧VRel ρ v en.val
 | .iter m since seen last=>r.sh=0∧∃rm,ρ m=some rm∧w.heap[r.blk]?=some (.mapIter (some rm.blk) since seen.toArray last)
 | .loop c ls vs=>∃rec,w.heap[r.blk]?=some (.loop rec)∧rec.state=.ready∧rec.pending=none∧rec.assign=c.asg∧rec.body=c.body∧rec.params=c.ps∧rec.tmps.size=c.N∧
   ∀t,VRel ρ (ofl ls vs t) (rec.tmps.getD t Go.undef)
 | .dead=>True

structure HRel (P:Program) (ρ:RMap) (h:Heap) (w:World):Prop where
 obj:∀i r,ρ i=some r→∃o,h[i]?=some o∧objRel ρ w r o
 inj:∀i j r s,ρ i=some r→ρ j=some s→r.blk=s.blk→isMut h i→isLive h j→i=j
 esz:∀i r,ρ i=some r→r.esz=P.cellsOf r.elem

theorem HRel.lt {P:Program} {ρ:RMap} {h:Heap} {w:World} (H:HRel P ρ h w) {i:Nat} {r:RI} (hi:ρ i=some r):i<h.length:=by
 obtain ⟨o,ho,_⟩:=H.obj i r hi
 exact (List.getElem?_eq_some_iff.1 ho).1

structure Tr (ρ:RMap) (h:Heap) (w:World) (ρ':RMap) (h':Heap) (w':World):Prop where
 ext:ρ.le ρ'
 len:h.length≤h'.length
 dom:∀i r,ρ i=some r→i<h.length
 kinds:∀i,i<h.length→isMut h' i→isMut h i
 fresh:∀i r,ρ' i=some r→ρ i=none→h.length≤i∧(w.heap.size≤r.blk∨∃j s,ρ j=some s∧s.blk=r.blk∧isMut h j)
 wsize:w.heap.size≤w'.heap.size
 wblk:∀b,b<w.heap.size→(∀j s,ρ j=some s→s.blk=b→¬isMut h j)→w'.heap[b]?=w.heap[b]?
 os:w'.os=w.os
 tape:w'.tape=w.tape
 output:w'.output=w.output

theorem Tr.refl {P:Program} {ρ:RMap} {h:Heap} {w:World} (H:HRel P ρ h w):Tr ρ h w ρ h w where
 ext:=.refl _
 len:=Nat.le_refl _
 dom:=fun _ _ hi=>H.lt hi
 kinds:=fun _ _ h=>h
 fresh:=fun i r h1 h2=>by rw [h1] at h2;cases h2
 wsize:=Nat.le_refl _
 wblk:=fun _ _ _=>rfl
 os:=rfl
 tape:=rfl
 output:=rfl

theorem Tr.trans {ρ₁ ρ₂ ρ₃:RMap} {h₁ h₂ h₃:Heap} {w₁ w₂ w₃:World} (a:Tr ρ₁ h₁ w₁ ρ₂ h₂ w₂) (b:Tr ρ₂ h₂ w₂ ρ₃ h₃ w₃):Tr ρ₁ h₁ w₁ ρ₃ h₃ w₃ where
 ext:=a.ext.trans b.ext
 len:=Nat.le_trans a.len b.len
 dom:=a.dom
 kinds:=fun i hi hm=>a.kinds i hi (b.kinds i (Nat.lt_of_lt_of_le hi a.len) hm)
 fresh:=by
  intro i r h3 h1
  cases h2:ρ₂ i with
  | some r2=>
   have:=b.ext i r2 h2
   rw [h3] at this
   cases this
   exact a.fresh i r h2 h1
  | none=>
   obtain ⟨hl,hb⟩:=b.fresh i r h3 h2
   refine ⟨Nat.le_trans a.len hl,?_⟩
   rcases hb with hb | ⟨j,s,hj,hs,hm⟩
   ·exact .inl (Nat.le_trans a.wsize hb)
   ·cases h1j:ρ₁ j with
    | some s'=>
     have:=a.ext j s' h1j
     rw [hj] at this
     cases this
     exact .inr ⟨j,s,h1j,hs,a.kinds j (a.dom j s h1j) hm⟩
    | none=>
     obtain ⟨_,h⟩:=a.fresh j s hj h1j
     rw [hs] at h
     rcases h with h | ⟨j',s',q1,q2,q3⟩
     ·exact .inl h
     ·exact .inr ⟨j',s',q1,q2,q3⟩
 wsize:=Nat.le_trans a.wsize b.wsize
 wblk:=by
  intro k hk hno
  rw [b.wblk k (Nat.lt_of_lt_of_le hk a.wsize) ?_,a.wblk k hk hno]
  intro j s hj hs hm
  cases h1j:ρ₁ j with
  | some s'=>
   have:=a.ext j s' h1j
   rw [hj] at this
   cases this
   exact hno j s h1j hs (a.kinds j (a.dom j s h1j) hm)
  | none=>
   obtain ⟨_,h⟩:=a.fresh j s hj h1j
   rcases h with h | ⟨j',s',q1,q2,q3⟩
   ·omega
   ·exact hno j' s' q1 (by omega) q3
 os:=b.os.trans a.os
 tape:=b.tape.trans a.tape
 output:=b.output.trans a.output

theorem HRel.drew {P:Program} {ρ:RMap} {h:Heap} {w:World} (H:HRel P ρ h w) (n:Nat):HRel P ρ h { w with drawn:=n }:=
 ⟨fun i r hi=>let ⟨o,ho,hr⟩:=H.obj i r hi;⟨o,ho,by cases o <;> exact hr⟩,H.inj,H.esz⟩

theorem Tr.drew {P:Program} {ρ:RMap} {h:Heap} {w:World} (H:HRel P ρ h w) (n:Nat):Tr ρ h w ρ h { w with drawn:=n } where
 ext:=.refl _
 len:=Nat.le_refl _
 dom:=fun _ _ hi=>H.lt hi
 kinds:=fun _ _ h=>h
 fresh:=fun i r h1 h2=>by rw [h1] at h2;cases h2
 wsize:=Nat.le_refl _
 wblk:=fun _ _ _=>rfl
 os:=rfl
 tape:=rfl
 output:=rfl

def mark (D:Nat):Deferred:={ target:=.collected D,args:=#[] }

def marks (B:Nat):List Deferred→World→Prop
 | [],w=>B≤w.heap.size
 | d::ds,w=>(∃D,d=mark D∧B≤D∧w.heap[D]?=some (.deferred (some []))∧∀d'∈ds,d'≠mark D)∧marks B ds w

theorem HRel.notDef {P:Program} {ρ:RMap} {h:Heap} {w:World} (H:HRel P ρ h w) {D:Nat} {x:Option (List Deferred)} (hD:w.heap[D]?=some (.deferred x)) {j:Nat} {s:RI} (hj:ρ j=some s) (hs:s.blk=D):¬isLive h j:=by
 rintro ⟨o,ho,hne⟩
 obtain ⟨o',ho',hr⟩:=H.obj j s hj
 rw [ho] at ho'
 cases ho'
 subst hs
 cases o with
 | ro e xs=>obtain ⟨_,c,_,fr,h2,_⟩:=hr;rw [hD] at h2;cases h2
 | arr e xs=>obtain ⟨_,_,c,h2,_⟩:=hr;rw [hD] at h2;cases h2
 | smap es=>obtain ⟨ents,clock,h1,_⟩:=hr;rw [hD] at h1;cases h1
 | imap kd es=>obtain ⟨ents,clock,h1,_⟩:=hr;rw [hD] at h1;cases h1
 | gmap g c es=>obtain ⟨_,ents,h1,_⟩:=hr;rw [hD] at h1;cases h1
 | iter m s n l=>obtain ⟨_,rm,_,h1⟩:=hr;rw [hD] at h1;cases h1
 | loop c ls vs=>obtain ⟨rec,h1,_⟩:=hr;rw [hD] at h1;cases h1
 | dead=>exact hne rfl

theorem marks.tr {P:Program} {ρ ρ':RMap} {h h':Heap} {w w':World} (H:HRel P ρ h w) (T:Tr ρ h w ρ' h' w') {B:Nat}:∀{ds:List Deferred},marks B ds w→marks B ds w'
 | [],hb=>Nat.le_trans hb T.wsize
 | d::ds,⟨⟨D,h1,h2,h3,h4⟩,h5⟩=>
  ⟨⟨D,h1,h2,by rw [T.wblk D (Array.getElem?_eq_some_iff.1 h3).1 fun j s hj hs hm=>H.notDef h3 hj hs hm.live];exact h3,h4⟩,marks.tr H T h5⟩

theorem marks.lt {B:Nat} {w:World}:∀{ds:List Deferred},marks B ds w→∀d∈ds,∃D,d=mark D∧D<w.heap.size
 | [],_,d,hd=>by simp at hd
 | d::ds,⟨⟨D,h1,h2,h3,h4⟩,h5⟩,d',hd=>by
  rcases List.mem_cons.1 hd with rfl | hd
  ·exact ⟨D,h1,(Array.getElem?_eq_some_iff.1 h3).1⟩
  ·exact marks.lt h5 d' hd

theorem marks.base {B:Nat} {w:World}:∀{ds:List Deferred},marks B ds w→B≤w.heap.size
 | [],h=>h
 | _::_,h=>marks.base h.2

theorem mark_inj {a b:Nat} (h:mark a=mark b):a=b:=by
 simp [mark] at h
 exact h

structure Rel (P:Program) (N:Nat) (B:Nat) (ρ:RMap) (f:Nat→Value) (h:Heap) (a:Act) (w:World):Prop where
 size:a.tmps.size=N
 defers:marks B a.defers w
 tmp:∀t,VRel ρ (f t) (a.tmps.getD t Go.undef)
 heap:HRel P ρ h w

def upd (f:Nat→Value) (t:Nat) (v:Value):Nat→Value:=fun j=>match Nat.beq j t with | true=>v | false=>f j

theorem upd_eq (f:Nat→Value) (t:Nat) (v:Value):upd f t v=fun j=>if j=t then v else f j:=by
 funext j
 unfold upd
 split
 ·rename_i h;rw [if_pos (Nat.eq_of_beq_eq_true h)]
 ·rename_i h;rw [if_neg (Nat.ne_of_beq_eq_false h)]

def ev (f:Nat→Value):Operand→Value
 | .tmp t=>f t
 | .const v=>v
 | .global g=>.pointer (some ⟨g,0,none⟩)
 | .func f=>.func (.func f) #[] #[]

def cvOk:Value→Bool
 | .bool _ | .int .. | .string _ | .nilFunc | .nilIface=>true
 | .pointer none | .map none=>true
 | .slice none 0 0=>true
 | _=>false

def opdOk:Operand→Bool
 | .tmp _=>true
 | .const v=>cvOk v
 | .global _=>false
 | .func _=>true

theorem cvOk.rel {ρ:RMap} {v:Value} (h:cvOk v=true):VRel ρ v v:=by
 unfold cvOk at h
 split at h
 ·exact .bool _
 ·exact .int _ _
 ·exact .string _
 ·exact .nilFunc
 ·exact .nilIface
 ·exact .nilPtr
 ·exact .nilMap
 ·exact .nilSlice
 ·simp at h

theorem Rel.ev {P:Program} {N B:Nat} {ρ:RMap} {f:Nat→Value} {h:Heap} {a:Act} {w:World} (R:Rel P N B ρ f h a w) {x:Operand} (hx:opdOk x=true):
  VRel ρ (ev f x) (a.eval x):=by
 cases x with
 | tmp t=>exact R.tmp t
 | const v=>exact cvOk.rel hx
 | global g=>simp [opdOk] at hx
 | func g=>exact .func g rfl rfl (fun k x x' e e'=>by simp at e) (fun k x x' e e'=>by simp at e)

theorem Rel.put {P:Program} {N B:Nat} {ρ ρ':RMap} {f:Nat→Value} {h h':Heap} {a:Act} {w w':World} (R:Rel P N B ρ f h a w) {d:Nat} (hd:d<N) {v v':Value}
  (T:Tr ρ h w ρ' h' w') (hv:VRel ρ' v v') (H:HRel P ρ' h' w'):Rel P N B ρ' (upd f d v) h' (a.put (some d) v') w' where
 size:=by simp [Act.put,R.size]
 defers:=marks.tr R.heap T R.defers
 tmp:=by
  intro t
  simp only [upd_eq]
  by_cases ht:t=d
  ·subst ht
   have:t<a.tmps.size:=by rw [R.size];exact hd
   simp [Act.put,Array.getD,this]
   exact hv
  ·rw [if_neg ht]
   have:=(R.tmp t).mono T.ext
   have e:((a.put (some d) v').tmps.getD t Go.undef)=a.tmps.getD t Go.undef:=by
    simp only [Act.put,Array.getD_eq_getD_getElem?,Array.getElem?_setIfInBounds]
    rw [if_neg (by omega)]
   rw [e]
   exact this
 heap:=H

theorem Rel.mono {P:Program} {N B:Nat} {ρ ρ':RMap} {f:Nat→Value} {h h':Heap} {a:Act} {w w':World} (R:Rel P N B ρ f h a w) (T:Tr ρ h w ρ' h' w') (H:HRel P ρ' h' w'):
  Rel P N B ρ' f h' a w':=⟨R.size,marks.tr R.heap T R.defers,fun t=>(R.tmp t).mono T.ext,H⟩

end Go.Sim


namespace Go.Sim

def S (l:List UInt8):Value:=.string ⟨l.toArray⟩
def bytes (s:ByteArray):List UInt8:=s.data.toList

theorem bytes_mk (l:List UInt8):bytes ⟨l.toArray⟩=l:=by simp [bytes]
theorem mk_bytes (s:ByteArray):(⟨(bytes s).toArray⟩:ByteArray)=s:=by simp [bytes]
theorem S_bytes (s:ByteArray):S (bytes s)=.string s:=by simp [S,mk_bytes]
inductive POp where
 | mv (x:Operand)
 | pick (c a b:Operand)
 | bin (op:BinOp) (x y:Operand)
 | eqb (neg:Bool) (x y:Operand)
 | eqnil (neg:Bool) (x y:Operand)
 | un (op:UnOp) (x:Operand)
 | conv (k:IntKind) (x:Operand)
 | sid (x:Operand)
 | lenS (x:Operand)
 | lenSl (x:Operand)
 | lenArr (n:Nat)
 | minmax (mx:Bool) (xs:List Operand)
 | idxS (x i:Operand)
 | idxA (n esz:Nat) (agg:Bool) (x i:Operand)
 | adrSl (esz:Nat) (x i:Operand)
 | adrArr (n esz:Nat) (x i:Operand)
 | fadr (off:Nat) (x:Operand)
 | fld (agg:Bool) (off sz:Nat) (x:Operand)
 | slS (x:Operand) (lo hi:Option Operand)
 | slSl (e:TypeId) (esz:Nat) (x:Operand) (lo hi:Option Operand)
 | nilck (x:Operand)
 | fn (f:FuncId) (first captured:List Operand)
 | ext (x:Operand) (i:Nat)
 | build (zero:List Value) (parts:List (Nat×Nat×Operand))
 | idxB (f:FuncId) (x c:Operand)

def iInt (op:BinOp) (k:IntKind) (a b:Int):Option Value:=
 match op with
 | .add=>some (.int k (k.wrap (a+b)))
 | .sub=>some (.int k (k.wrap (a-b)))
 | .mul=>some (.int k (k.wrap (a*b)))
 | .quo=>if b=0 then none else some (.int k (k.wrap (a.tdiv b)))
 | .rem=>if b=0 then none else some (.int k (a.tmod b))
 | .and=>some (.int k (k.wrap (BitVec.ofInt k.bits a &&& BitVec.ofInt k.bits b).toNat))
 | .or=>some (.int k (k.wrap (BitVec.ofInt k.bits a ||| BitVec.ofInt k.bits b).toNat))
 | .xor=>some (.int k (k.wrap (BitVec.ofInt k.bits a^^^BitVec.ofInt k.bits b).toNat))
 | .andNot=>some (.int k (k.wrap (BitVec.ofInt k.bits a &&& ~~~BitVec.ofInt k.bits b).toNat))
 | .eql=>some (.bool (decide (a=b)))
 | .neq=>some (.bool (!decide (a=b)))
 | .lss=>some (.bool (decide (a<b)))
 | .leq=>some (.bool (decide (a≤b)))
 | .gtr=>some (.bool (decide (b<a)))
 | .geq=>some (.bool (decide (b≤a)))
 | _=>none

def iShift (op:BinOp) (k:IntKind) (a b:Int):Option Value:=
 if b<0 then none else
 match op with
 | .shl=>some (.int k (k.wrap (a*2^(min b.toNat k.bits))))
 | .shr=>some (.int k (a.fdiv (2^(min b.toNat k.bits))))
 | _=>none

def iStr (op:BinOp) (a b:List UInt8):Option Value:=
 match op with
 | .add=>if a.length+b.length≤maxLen then some (S (a++b)) else none
 | .eql=>some (.bool (decide (a=b)))
 | .neq=>some (.bool (!decide (a=b)))
 | .lss=>some (.bool (Op.bytesLess a b))
 | .leq=>some (.bool (Op.bytesLess a b||decide (a=b)))
 | .gtr=>some (.bool (!(Op.bytesLess a b||decide (a=b))))
 | .geq=>some (.bool (!Op.bytesLess a b))
 | _=>none

def iBin (op:BinOp) (x y:Value):Option Value:=
 match x,y with
 | .int k a,.int k' b=>
  match op with
  | .shl=>iShift .shl k a b
  | .shr=>iShift .shr k a b
  | op=>if k=k' then iInt op k a b else none
 | .string s,.string t=>iStr op (bytes s) (bytes t)
 | _,_=>none

def iEqb (neg:Bool) (x y:Value):Option Value:=
 match x,y with
 | .bool a,.bool b=>some (.bool (if neg then !(a==b) else a==b))
 | _,_=>none

def isNilSlice:Value→Option Bool
 | .slice none 0 0=>some true
 | .slice (some _) _ _=>some false
 | _=>none

def iEqnil (neg:Bool) (x y:Value):Option Value:=
 match isNilSlice x,isNilSlice y with
 | some a,some b=>if a||b then some (.bool (if neg then !(a&&b) else a&&b)) else none
 | _,_=>none

def iUn (op:UnOp) (x:Value):Option Value:=
 match op,x with
 | .neg,.int k n=>some (.int k (k.wrap (0-n)))
 | .not,.bool b=>some (.bool !b)
 | .xor,.int k n=>some (.int k (k.wrap (BitVec.ofInt k.bits (if k.signed then -1 else k.max)^^^BitVec.ofInt k.bits n).toNat))
 | _,_=>none

def iConv (k:IntKind):Value→Option Value
 | .int _ n=>some (.int k (k.wrap n))
 | _=>none

def iSid:Value→Option Value
 | .string s=>some (.string s)
 | _=>none

def iLenS:Value→Option Value
 | .string s=>some (.int .i64 (bytes s).length)
 | _=>none

def iLenSl:Value→Option Value
 | .slice _ n _=>some (.int .i64 n)
 | _=>none

def max2 (mx:Bool):Value→Value→Option Value
 | .int k x,.int _ y=>some (.int k (if mx then (if y>x then y else x) else (if y<x then y else x)))
 | _,_=>none

def iMinmax (mx:Bool):List Value→Option Value
 | .int k x::rest=>rest.foldlM (max2 mx) (.int k x)
 | _=>none

def iIdxS (x i:Value):Option Value:=
 match x,i with
 | .string s,.int _ i=>if 0≤i then ((bytes s)[i.toNat]?).map fun b=>.int .u8 b.toNat else none
 | _,_=>none

def iPart (agg:Bool) (off sz:Nat) (cs:List Value):Option Value:=
 if agg then (if off+sz≤cs.length then some (.agg ((cs.drop off).take sz).toArray) else none) else cs[off]?

def iIdxA (n esz:Nat) (agg:Bool) (x i:Value):Option Value:=
 match x,i with
 | .agg cs,.int _ i=>if 0≤i∧i<n then iPart agg (i.toNat*esz) esz cs.toList else none
 | _,_=>none

def iAdrSl (esz:Nat) (x i:Value):Option Value:=
 match x,i with
 | .slice (some ⟨id,o,some _⟩) n _,.int _ i=>if 0≤i∧i<n then some (.pointer (some ⟨id,o+i.toNat*esz,none⟩)) else none
 | _,_=>none

def iAdrArr (n esz:Nat) (x i:Value):Option Value:=
 match x,i with
 | .pointer (some ⟨id,o,none⟩),.int _ i=>if 0≤i∧i<n then some (.pointer (some ⟨id,o+i.toNat*esz,none⟩)) else none
 | _,_=>none

def iFadr (off:Nat) (x:Value):Option Value:=
 match x with
 | .pointer (some ⟨id,o,none⟩)=>some (.pointer (some ⟨id,o+off,none⟩))
 | _=>none

def iFld (agg:Bool) (off sz:Nat) (x:Value):Option Value:=
 match x with
 | .agg cs=>iPart agg off sz cs.toList
 | _=>none

def natOf:Value→Option Nat
 | .int _ i=>if 0≤i then some i.toNat else none
 | _=>none

def iBounds (n:Nat) (lo hi:Option Value):Option (Nat×Nat):=
 match (match lo with | none=>some 0 | some v=>natOf v),(match hi with | none=>some n | some v=>natOf v) with
 | some l,some h=>if l≤h∧h≤n then some (l,h) else none
 | _,_=>none

def iSlS (x:Value) (lo hi:Option Value):Option Value:=
 match x with
 | .string s=>(iBounds (bytes s).length lo hi).map fun (l,h)=>S (((bytes s).take h).drop l)
 | _=>none

def iSlSl (e:TypeId) (esz:Nat) (x:Value) (lo hi:Option Value):Option Value:=
 match x with
 | .slice none 0 0=>(iBounds 0 lo hi).map fun _=>.slice none 0 0
 | .slice (some ⟨id,o,some e'⟩) n _=>
  if e'=e then (iBounds n lo hi).map fun (l,h)=>.slice (some ⟨id,o+l*esz,some e⟩) (h-l) (h-l) else none
 | _=>none

def iNilck (x:Value):Option Value:=
 match x with
 | .pointer (some a)=>some (.pointer (some a))
 | .func f a b=>some (.func f a b)
 | _=>none

def iExt (i:Nat) (x:Value):Option Value:=
 match x with
 | .tuple vs=>vs[i]?
 | _=>none

def setAt (xs:List Value) (o:Nat) (vs:List Value):List Value:=xs.take o++vs++xs.drop (o+vs.length)

def fillL:List Value→List (Nat×Nat×Value)→Option (List Value)
 | xs,[]=>some xs
 | xs,(off,size,v)::rest=>
  if noTuple v∧(vcells v).length=size∧off+size≤xs.length then fillL (setAt xs off (vcells v)) rest else none

def iBuild (zero:List Value) (parts:List (Nat×Nat×Value)):Option Value:=(fillL zero parts).map fun cs=>.agg cs.toArray

def iPick (c a b:Value):Option Value:=
 match c with
 | .bool t=>some (if t then a else b)
 | _=>none

def iIdxB (x c:Value):Option Value:=
 match x,c with
 | .string s,.int .u8 c=>some (.int .i64 (Lib.indexByte (bytes s) c.toNat.toUInt8))
 | _,_=>none

def ipure (o:POp) (g:Operand→Value):Option Value:=
 match o with
 | .mv x=>some (g x)
 | .pick c a b=>iPick (g c) (g a) (g b)
 | .bin op x y=>iBin op (g x) (g y)
 | .eqb neg x y=>iEqb neg (g x) (g y)
 | .eqnil neg x y=>iEqnil neg (g x) (g y)
 | .un op x=>iUn op (g x)
 | .conv k x=>iConv k (g x)
 | .sid x=>iSid (g x)
 | .lenS x=>iLenS (g x)
 | .lenSl x=>iLenSl (g x)
 | .lenArr n=>some (.int .i64 n)
 | .minmax mx xs=>iMinmax mx (xs.map g)
 | .idxS x i=>iIdxS (g x) (g i)
 | .idxA n esz agg x i=>iIdxA n esz agg (g x) (g i)
 | .adrSl esz x i=>iAdrSl esz (g x) (g i)
 | .adrArr n esz x i=>iAdrArr n esz (g x) (g i)
 | .fadr off x=>iFadr off (g x)
 | .fld agg off sz x=>iFld agg off sz (g x)
 | .slS x lo hi=>iSlS (g x) (lo.map g) (hi.map g)
 | .slSl e esz x lo hi=>iSlSl e esz (g x) (lo.map g) (hi.map g)
 | .nilck x=>iNilck (g x)
 | .fn f first captured=>some (.func (.func f) (first.map g).toArray (captured.map g).toArray)
 | .ext x i=>iExt i (g x)
 | .build zero parts=>iBuild zero (parts.map fun (o,s,x)=>(o,s,g x))
 | .idxB f x c=>
  match g (.func f) with
  | .func (.func f') a b=>if f'=f∧a.size=0∧b.size=0 then iIdxB (g x) (g c) else none
  | _=>none

def isAggD:TypeDesc→Bool
 | .struct _ | .array _ _=>true
 | _=>false

def cellOk (v:Value):Bool:=cvOk v&&isCell v

def zeroOf (P:Program) (t:TypeId):Option (List Value):=
 match P.info? t with
 | some i=>match i.zero with
  | some z=>if noTuple z&&(vcells z).all cellOk&&(vcells z).length==i.size then some (vcells z) else none
  | none=>none
 | none=>none

def placesOf (P:Program) (fs:Array Field):List (Nat×Nat):=fs.toList.map fun f=>(f.offset,P.cellsOf f.type)

def infoOk (P:Program) (t:TypeId):Bool:=(P.info? t).isSome

def extIdx (P:Program) (f:FuncId):Bool:=
 match P.funcs[f]? with
 | some fn=>fn.body.isNone&&fn.name== "internal/bytealg.IndexByteString" &&(Extern.findNext fn).isNone
 | none=>false

def compP (P:Program):Op→Option POp
 | .move x | .assign x=>some (.mv x)
 | .pick c a b=>some (.pick c a b)
 | .binOp op t x y _=>
  match op,P.underlying t with
  | .eql,some .bool=>some (.eqb false x y)
  | .neq,some .bool=>some (.eqb true x y)
  | .eql,some (.slice _)=>some (.eqnil false x y)
  | .neq,some (.slice _)=>some (.eqnil true x y)
  | op,_=>some (.bin op x y)
 | .unOp op _ x=>some (.un op x)
 | .convert s d x=>
  match P.underlying s,P.underlying d with
  | some (.int _),some (.int k)=>some (.conv k x)
  | some .string,some .string=>some (.sid x)
  | _,_=>none
 | .call { callee:=.builtin .len,args,argTypes }=>
  match args.toList,argTypes.toList with
  | [x],[t]=>
   match P.underlying t with
   | some .string=>some (.lenS x)
   | some (.slice _)=>some (.lenSl x)
   | some (.array n _)=>some (.lenArr n)
   | _=>none
  | _,_=>none
 | .call { callee:=.builtin .min,args,argTypes:=_ }=>some (.minmax false args.toList)
 | .call { callee:=.builtin .max,args,argTypes:=_ }=>some (.minmax true args.toList)
 | .call { callee:=.value (.func f),args,argTypes:=_ }=>
  match args.toList with
  | [x,c]=>if extIdx P f then some (.idxB f x c) else none
  | _=>none
 | .index t x i=>
  match P.underlying t with
  | some .string=>some (.idxS x i)
  | some (.array n e)=>
   match P.underlying e with
   | some d=>if infoOk P e&&(isAggD d||P.cellsOf e==1) then some (.idxA n (P.cellsOf e) (isAggD d) x i) else none
   | none=>none
  | _=>none
 | .indexAddr t x i=>
  match P.underlying t with
  | some (.slice e)=>if infoOk P e then some (.adrSl (P.cellsOf e) x i) else none
  | some (.array n e)=>if infoOk P e then some (.adrArr n (P.cellsOf e) x i) else none
  | _=>none
 | .fieldAddr t x f=>
  match P.underlying t with
  | some (.struct fs)=>
   match fs[f]? with
   | some fd=>if infoOk P fd.type&&P.cellsOf fd.type != 0 then some (.fadr fd.offset x) else none
   | none=>none
  | _=>none
 | .field t x f=>
  match P.underlying t with
  | some (.struct fs)=>
   match fs[f]? with
   | some fd=>
    match P.underlying fd.type with
    | some d=>if infoOk P fd.type&&(isAggD d||P.cellsOf fd.type==1) then some (.fld (isAggD d) fd.offset (P.cellsOf fd.type) x) else none
    | none=>none
   | none=>none
  | _=>none
 | .slice t x lo hi mx=>
  match P.underlying t,mx with
  | some .string,none=>some (.slS x lo hi)
  | some (.slice e),none=>if infoOk P e then some (.slSl e (P.cellsOf e) x lo hi) else none
  | _,_=>none
 | .nilCheck x=>some (.nilck x)
 | .makeFunc (.func f) first captured=>some (.fn f first.toList captured.toList)
 | .extract x i=>some (.ext x i)
 | .build t parts=>
  match P.underlying t,zeroOf P t with
  | some (.struct fs),some z=>
   if fs.all fun f=>infoOk P f.type then
    match parts.toList.mapM (m:=Option) fun (i,x)=>(placesOf P fs)[i]? |>.map fun (o,s)=>(o,s,x) with
    | some ps=>some (.build z ps)
    | none=>none
   else none
  | some (.array _ e),some z=>if infoOk P e then some (.build z (parts.toList.map fun (i,x)=>(i*P.cellsOf e,P.cellsOf e,x))) else none
  | _,_=>none
 | _=>none

end Go.Sim


namespace Go.Sim

theorem VRel.int_inv {ρ:RMap} {k:IntKind} {n:Int} {v:Value} (h:VRel ρ (.int k n) v):v=.int k n:=by cases h;rfl
theorem VRel.bool_inv {ρ:RMap} {b:Bool} {v:Value} (h:VRel ρ (.bool b) v):v=.bool b:=by cases h;rfl
theorem VRel.string_inv {ρ:RMap} {s:ByteArray} {v:Value} (h:VRel ρ (.string s) v):v=.string s:=by cases h;rfl
theorem VRel.S (ρ:RMap) (l:List UInt8):VRel ρ (S l) (S l):=.string _

theorem toList_eq (s:ByteArray):s.toList=bytes s:=by
 obtain ⟨⟨l⟩⟩:=s
 exact ByteArray.toList_mk l

theorem bytesEq (s t:ByteArray):(s.toList==t.toList)=decide (bytes s=bytes t):=by
 rw [toList_eq,toList_eq]
 by_cases h:bytes s=bytes t <;> simp [h]

theorem size_bytes (s:ByteArray):s.size=(bytes s).length:=by simp [bytes]

theorem append_bytes (s t:ByteArray):s++t=⟨(bytes s++bytes t).toArray⟩:=by
 apply ByteArray.ext
 apply Array.ext'
 simp [bytes]

section
variable (P : Program) (w : World)

theorem run_iInt {op:BinOp} {k:IntKind} {a b:Int} {v:Value} (t:TypeId) (hop:op≠ .shl) (hop':op≠ .shr) (h:iInt op k a b=some v):
  (binOp op t (.int k a) (.int k b)).run P w=.ok v w:=by
 cases op <;> simp [iInt] at h <;> simp at hop hop' <;> (first | subst h | (obtain ⟨hb,h⟩:=h;subst h)) <;>
  simp_all [binOp,Op.intArith,Op.intDiv,Op.intBits,Op.intCmp]
 ·rw [Bool.eq_iff_iff];simp
 ·rw [Bool.eq_iff_iff];simp

theorem run_iShift {op:BinOp} {k k':IntKind} {a b:Int} {v:Value} (t:TypeId) (hop:op=.shl∨op=.shr) (h:iShift op k a b=some v):
  (binOp op t (.int k a) (.int k' b)).run P w=.ok v w:=by
 unfold iShift at h
 by_cases hb:b<0
 ·rw [if_pos hb] at h;cases h
 ·rw [if_neg hb] at h
  rcases hop with rfl | rfl <;> simp at h <;> subst h <;> simp [binOp,Op.shift,hb]

theorem run_iStr {op:BinOp} {s s':ByteArray} {v:Value} (t:TypeId) (h:iStr op (bytes s) (bytes s')=some v):
  (binOp op t (.string s) (.string s')).run P w=.ok v w:=by
 have e1:=bytesEq s s'
 have hl:IntKind.i64.max=9223372036854775807:=rfl
 cases op <;> simp [iStr] at h <;> (first | subst h | (obtain ⟨hb,h⟩:=h;subst h)) <;> simp only [binOp,Op.stringOp]
 all_goals first
  | (rw [e1];simp [toList_eq];done)
  | (simp [toList_eq];done)
  | skip
 ·unfold maxLen at hb
  rw [if_neg (by rw [hl,size_bytes,size_bytes];omega)]
  rw [append_bytes]
  rfl

theorem run_eqGuard_int (op:BinOp) (t:TypeId) (x y:Operand) (k k':IntKind) (a b:Int):(eqGuard op t x y (.int k a) (.int k' b)).run P w=.ok () w:=by
 unfold eqGuard
 cases op <;> simp
theorem run_eqGuard_string (op:BinOp) (t:TypeId) (x y:Operand) (a b:ByteArray):(eqGuard op t x y (.string a) (.string b)).run P w=.ok () w:=by
 unfold eqGuard
 cases op <;> simp
theorem run_eqGuard_bool (op:BinOp) (t:TypeId) (x y:Operand) (a b:Bool):(eqGuard op t x y (.bool a) (.bool b)).run P w=.ok () w:=by
 unfold eqGuard
 cases op <;> simp
theorem run_eqGuard_slice (op:BinOp) (t:TypeId) (x y:Operand) (a b:Option Addr) (n m c d:Nat):(eqGuard op t x y (.slice a n c) (.slice b m d)).run P w=.ok () w:=by
 unfold eqGuard
 cases op <;> simp

theorem run_iBin {ρ:RMap} {op:BinOp} {x y x' y' v:Value} (t:TypeId) (ox oy:Operand) (h:iBin op x y=some v) (hx:VRel ρ x x') (hy:VRel ρ y y'):
  (do eqGuard op t ox oy x' y';binOp op t x' y':Sem Value).run P w=.ok v w∧VRel ρ v v:=by
 unfold iBin at h
 split at h
 ·rename_i k a k' b
  rw [hx.int_inv,hy.int_inv]
  have hv:(binOp op t (.int k a) (.int k' b)).run P w=.ok v w∧VRel ρ v v:=by
   split at h
   ·refine ⟨run_iShift P w t (.inl rfl) h,?_⟩
    unfold iShift at h
    split at h <;> simp at h
    subst h;exact .int _ _
   ·refine ⟨run_iShift P w t (.inr rfl) h,?_⟩
    unfold iShift at h
    split at h <;> simp at h
    subst h;exact .int _ _
   ·rename_i h1 h2
    split at h
    ·rename_i hk
     subst hk
     refine ⟨run_iInt P w t h1 h2 h,?_⟩
     cases op <;> simp [iInt] at h <;> (first | subst h | (obtain ⟨_,h⟩:=h;subst h)) <;> first | exact .int _ _ | exact .bool _
    ·cases h
  simp only [Sem.run_bind,run_eqGuard_int,Result.andThen_ok]
  exact hv
 ·rename_i s s'
  rw [hx.string_inv,hy.string_inv]
  simp only [Sem.run_bind,run_eqGuard_string,Result.andThen_ok]
  refine ⟨run_iStr P w t h,?_⟩
  cases op <;> simp [iStr] at h <;> (first | subst h | (obtain ⟨_,h⟩:=h;subst h)) <;> first | exact .string _ | exact .bool _
 ·cases h

theorem run_iEqb {ρ:RMap} {neg:Bool} {op:BinOp} {x y x' y' v:Value} (t:TypeId) (ox oy:Operand) (ht:P.underlying t=some .bool) (hop:op=if neg then .neq else .eql)
  (h:iEqb neg x y=some v) (hx:VRel ρ x x') (hy:VRel ρ y y'):
  (do eqGuard op t ox oy x' y';binOp op t x' y':Sem Value).run P w=.ok v w∧VRel ρ v v:=by
 unfold iEqb at h
 split at h
 ·rename_i a b
  rw [hx.bool_inv,hy.bool_inv]
  simp only [Sem.run_bind,run_eqGuard_bool,Result.andThen_ok]
  simp at h
  subst h
  refine ⟨?_,.bool _⟩
  cases neg <;> simp at hop <;> subst hop
  ·exact run_eql_bool w t a b ht
  ·exact run_neq_bool w t a b ht
 ·cases h

theorem run_iEqnil {ρ:RMap} {neg:Bool} {op:BinOp} {x y x' y' v:Value} {e:TypeId} (t:TypeId) (ox oy:Operand) (ht:P.underlying t=some (.slice e)) (hop:op=if neg then .neq else .eql)
  (h:iEqnil neg x y=some v) (hx:VRel ρ x x') (hy:VRel ρ y y'):
  (do eqGuard op t ox oy x' y';binOp op t x' y':Sem Value).run P w=.ok v w∧VRel ρ v v:=by
 unfold iEqnil at h
 split at h
 ·rename_i a b ha hb
  split at h
  ·rename_i hab
   simp at h
   subst h
   refine ⟨?_,.bool _⟩
   cases hx <;> simp [isNilSlice] at ha <;> cases hy <;> simp [isNilSlice] at hb <;> subst ha <;> subst hb <;> simp at hab
   all_goals
    simp only [Sem.run_bind,run_eqGuard_slice,Result.andThen_ok]
    cases neg <;> simp at hop <;> subst hop <;> simp only [Lib.run_eql_slice_nil w t e _ _ _ _ _ ht,run_neq_slice_nil_any w t e _ _ _ _ _ ht,run_eql_nil_slice w t e _ _ _ _ _ ht,run_neq_nil_slice w t e _ _ _ _ _ ht] <;> simp
  ·cases h
 ·cases h

theorem run_iUn {ρ:RMap} {op:UnOp} {x x' v:Value} (h:iUn op x=some v) (hx:VRel ρ x x'):(Op.unary op x').run P w=.ok v w∧VRel ρ v v:=by
 unfold iUn at h
 split at h
 ·rw [hx.int_inv];simp at h;subst h;exact ⟨by simp [Op.unary,Op.intArith],.int _ _⟩
 ·rw [hx.bool_inv];simp at h;subst h;exact ⟨by simp [Op.unary],.bool _⟩
 ·rw [hx.int_inv];simp only [Option.some.injEq] at h;subst h;exact ⟨rfl,.int _ _⟩
 ·cases h

end
end Go.Sim


namespace Go.Sim

section
variable {P : Program} (w : World)

theorem infoOk_some {t:TypeId} (h:infoOk P t=true):∃i,P.info? t=some i:=by
 unfold infoOk at h
 exact Option.isSome_iff_exists.1 h

theorem run_sizeOf' {t:TypeId} (h:infoOk P t=true):(sizeOf t).run P w=.ok (P.cellsOf t) w:=by
 obtain ⟨i,hi⟩:=infoOk_some h
 exact run_sizeOf w hi

theorem run_isAgg' {t:TypeId} {d:TypeDesc} (h:P.underlying t=some d):(isAgg t).run P w=.ok (isAggD d) w:=by
 cases d <;> simp [isAgg,run_underlying h,isAggD]

theorem max2_int {mx:Bool} {k:IntKind} {x:Int} {y v:Value} (h:max2 mx (.int k x) y=some v):∃k' b,y=.int k' b∧∃z,v=.int k z:=by
 unfold max2 at h
 split at h
 ·rename_i k2 x2 k3 y2 e
  cases e
  simp at h
  exact ⟨k3,y2,rfl,_,h.symm⟩
 ·cases h

theorem run_minmax {ρ:RMap} {mx:Bool}:∀{xs xs':List Value} {k:IntKind} {x:Int} {v:Value},xs.foldlM (max2 mx) (.int k x)=some v→VsRel ρ xs xs'→
  (xs'.foldlM (if mx then Builtin.max2 else Builtin.min2) (.int k x):Sem Value).run P w=.ok v w∧VRel ρ v v
 | [],xs',k,x,v,h,hs=>by
  cases hs
  simp at h
  subst h
  exact ⟨rfl,.int _ _⟩
 | y::xs,xs',k,x,v,h,hs=>by
  cases hs with
  | cons hy hs=>
   simp only [List.foldlM_cons,Option.bind_eq_bind,Option.bind_eq_some_iff] at h
   obtain ⟨u,hu,h⟩:=h
   obtain ⟨k',b,rfl,z,rfl⟩:=max2_int hu
   have ih:=run_minmax (ρ:=ρ) h hs
   refine ⟨?_,ih.2⟩
   rw [hy.int_inv]
   simp only [List.foldlM_cons,Sem.run_bind]
   simp only [max2,Option.some.injEq,Value.int.injEq,true_and] at hu
   cases mx
   ·simp at hu⊢
    simp only [Builtin.min2,Sem.run_pure,Result.andThen_ok,hu]
    simpa using ih.1
   ·simp at hu⊢
    simp only [Builtin.max2,Sem.run_pure,Result.andThen_ok,gt_iff_lt,hu]
    simpa using ih.1

theorem run_iIdxS {ρ:RMap} {t:TypeId} {x i x' i' v:Value} (ht:P.underlying t=some .string) (h:iIdxS x i=some v) (hx:VRel ρ x x') (hi:VRel ρ i i'):
  (Instr.index t x' i').run P w=.ok v w∧VRel ρ v v:=by
 unfold iIdxS at h
 split at h
 ·rename_i s k j
  rw [hx.string_inv,hi.int_inv]
  split at h
  ·rename_i h0
   simp only [Option.map_eq_some_iff] at h
   obtain ⟨b,hb,rfl⟩:=h
   refine ⟨?_,.int _ _⟩
   have hb':s[j.toNat]?=some b:=by
    have hlt:=(List.getElem?_eq_some_iff.1 hb).1
    have:j.toNat<s.size:=by rw [size_bytes];exact hlt
    rw [getElem?_pos s j.toNat this]
    have e:=(List.getElem?_eq_some_iff.1 hb).2
    simp only [bytes,Array.getElem_toList] at e
    rw [←e]
    rfl
   simp [Instr.index,asIntOf,run_underlying ht,h0,hb']
  ·cases h
 ·cases h

theorem iPart_rel {ρ:RMap} {agg:Bool} {off sz:Nat} {cs:List Value} {cs':Array Value} {v:Value} (h:iPart agg off sz cs=some v) (hs:VsRel ρ cs cs'.toList) (h1:∀x∈cs,isCell x=true):
  ∃v',(if agg then some (.agg (cs'.extract off (off+sz))) else cs'[off]?)=some v'∧VRel ρ v v':=by
 unfold iPart at h
 cases agg
 ·simp at h⊢
  obtain ⟨y,hy,hr⟩:=hs.get h
  exact ⟨y,by simpa using hy,hr⟩
 ·simp at h⊢
  obtain ⟨hl,rfl⟩:=h
  have:=((hs.drop off).take sz)
  have e:(cs'.extract off (off+sz))=((cs'.toList.drop off).take sz).toArray:=by
   apply Array.ext'
   simp [List.take_drop]
  rw [e]
  exact .aggL this (fun x hx=>h1 x (List.mem_of_mem_drop (List.mem_of_mem_take hx)))

theorem run_iPart {ρ:RMap} {t:TypeId} {d:TypeDesc} {off:Nat} {cs:List Value} {cs':Array Value} {v:Value} (ht:P.underlying t=some d) (hk:infoOk P t=true)
  (h:iPart (isAggD d) off (P.cellsOf t) cs=some v) (hs:VsRel ρ cs cs'.toList) (h1:∀x∈cs,isCell x=true):
  ∃v',(part t cs' off).run P w=.ok v' w∧VRel ρ v v':=by
 obtain ⟨v',hv,hr⟩:=iPart_rel h hs h1
 refine ⟨v',?_,hr⟩
 unfold part
 simp only [Sem.run_bind,run_isAgg' w ht,Result.andThen_ok]
 cases hd:isAggD d
 ·rw [hd] at hv
  simp at hv⊢
  rw [hv]
  rfl
 ·rw [hd] at hv
  simp at hv⊢
  simp only [run_sizeOf' w hk,Result.andThen_ok,hv]

theorem VRel.agg_inv {ρ:RMap} {cs:Array Value} {x':Value} (h:VRel ρ (.agg cs) x'):∃cs',x'=.agg cs'∧VsRel ρ cs.toList cs'.toList∧∀x∈cs.toList,isCell x=true:=by
 cases h with
 | agg hs h1 h=>exact ⟨_,rfl,VsRel.toArr hs h,h1⟩

theorem run_iIdxA {ρ:RMap} {t e:TypeId} {d:TypeDesc} {n:Nat} {x i x' i' v:Value} (ht:P.underlying t=some (.array n e)) (he:P.underlying e=some d) (hk:infoOk P e=true)
  (h:iIdxA n (P.cellsOf e) (isAggD d) x i=some v) (hx:VRel ρ x x') (hi:VRel ρ i i'):
  ∃v',(Instr.index t x' i').run P w=.ok v' w∧VRel ρ v v':=by
 unfold iIdxA at h
 split at h
 ·rename_i cs k j
  obtain ⟨cs',rfl,hs,h1⟩:=hx.agg_inv
  rw [hi.int_inv]
  split at h
  ·rename_i h0
   obtain ⟨v',hr,hv⟩:=run_iPart w he hk h hs h1
   refine ⟨v',?_,hv⟩
   simp [Instr.index,asIntOf,run_underlying ht,h0,run_sizeOf' w hk,hr]
  ·cases h
 ·cases h

theorem run_iFld {ρ:RMap} {t:TypeId} {fs:Array Field} {f:Nat} {fd:Field} {d:TypeDesc} {x x' v:Value} (ht:P.underlying t=some (.struct fs)) (hf:fs[f]?=some fd) (he:P.underlying fd.type=some d)
  (hk:infoOk P fd.type=true) (h:iFld (isAggD d) fd.offset (P.cellsOf fd.type) x=some v) (hx:VRel ρ x x'):
  ∃v',(Instr.field t x' f).run P w=.ok v' w∧VRel ρ v v':=by
 unfold iFld at h
 split at h
 ·rename_i cs
  obtain ⟨cs',rfl,hs,h1⟩:=hx.agg_inv
  obtain ⟨v',hr,hv⟩:=run_iPart w he hk h hs h1
  refine ⟨v',?_,hv⟩
  simp [Instr.field,run_underlying ht,hf,asAgg,hr]
 ·cases h

theorem run_iAdrSl {ρ:RMap} {t e:TypeId} {x i x' i' v:Value} (ht:P.underlying t=some (.slice e)) (hk:infoOk P e=true)
  (h:iAdrSl (P.cellsOf e) x i=some v) (hx:VRel ρ x x') (hi:VRel ρ i i'):
  ∃v',(Instr.indexAt t x' i').run P w=.ok v' w∧VRel ρ v v':=by
 unfold iAdrSl at h
 split at h
 ·rename_i id o e' n c k j
  split at h
  ·rename_i h0
   simp at h
   subst h
   rw [hi.int_inv]
   cases hx with
   | slice hr ho hn hc hb=>
    rename_i o' c' r
    have ho':o'=r.sh+o:=by
     rcases ho with ho | ⟨h1,h2,h3⟩
     ·exact ho
     ·omega
    subst ho'
    refine ⟨_,?_,VRel.ptr hr⟩
    simp [Instr.indexAt,asIntOf,run_underlying ht,h0,run_sizeOf' w hk,Addr.add_lit,Nat.add_assoc]
  ·cases h
 ·cases h

theorem VRel.ptr_inv {ρ:RMap} {id o:Nat} {x':Value} (h:VRel ρ (.pointer (some ⟨id,o,none⟩)) x'):∃r,ρ id=some r∧x'=.pointer (some ⟨r.blk,r.sh+o,none⟩):=by
 cases h with
 | ptr hr=>exact ⟨_,hr,rfl⟩

theorem run_iAdrArr {ρ:RMap} {t e:TypeId} {n:Nat} {x i x' i' v:Value} (ht:P.underlying t=some (.array n e)) (hk:infoOk P e=true)
  (h:iAdrArr n (P.cellsOf e) x i=some v) (hx:VRel ρ x x') (hi:VRel ρ i i'):
  ∃v',(Instr.indexAt t x' i').run P w=.ok v' w∧VRel ρ v v':=by
 unfold iAdrArr at h
 split at h
 ·rename_i id o k j
  split at h
  ·rename_i h0
   simp at h
   subst h
   rw [hi.int_inv]
   obtain ⟨r,hr,rfl⟩:=hx.ptr_inv
   refine ⟨_,?_,VRel.ptr hr⟩
   simp [Instr.indexAt,asIntOf,run_underlying ht,h0,run_sizeOf' w hk,Instr.sureAddr,Addr.add_lit,Nat.add_assoc]
  ·cases h
 ·cases h

theorem run_iFadr {ρ:RMap} {t:TypeId} {fs:Array Field} {f:Nat} {fd:Field} {x x' v:Value} (ht:P.underlying t=some (.struct fs)) (hf:fs[f]?=some fd) (hk:infoOk P fd.type=true)
  (hz:P.cellsOf fd.type≠0) (h:iFadr fd.offset x=some v) (hx:VRel ρ x x'):
  ∃v',(Instr.fieldAt t x' f).run P w=.ok v' w∧VRel ρ v v':=by
 unfold iFadr at h
 split at h
 ·rename_i id o
  simp at h
  subst h
  obtain ⟨r,hr,rfl⟩:=hx.ptr_inv
  refine ⟨_,?_,VRel.ptr hr⟩
  simp [Instr.fieldAt,run_underlying ht,hf,Instr.sureAddr,fieldPlace,run_sizeOf' w hk,hz,Addr.add_lit,Nat.add_assoc]
 ·cases h

theorem natOf_inv {ρ:RMap} {v v':Value} {n:Nat} (h:natOf v=some n) (hv:VRel ρ v v'):∃k i,v'=.int k i∧0≤i∧i.toNat=n:=by
 unfold natOf at h
 split at h
 ·rename_i k i
  rw [hv.int_inv]
  split at h
  ·rename_i h0
   simp at h
   exact ⟨k,i,rfl,h0,h⟩
  ·cases h
 ·cases h

def OptRel (ρ:RMap):Option Value→Option Value→Prop
 | none,none=>True
 | some a,some b=>VRel ρ a b
 | _,_=>False

theorem run_iBounds {ρ:RMap} {n cap:Nat} {isSlice:Bool} {lo hi lo' hi':Option Value} {l h:Nat} (he:iBounds n lo hi=some (l,h)) (hc:n≤cap) (hlo:OptRel ρ lo lo') (hhi:OptRel ρ hi hi'):
  (Instr.sliceBounds isSlice n cap lo' hi' none).run P w=.ok (l,h,cap) w∧l≤h∧h≤n:=by
 unfold iBounds at he
 split at he
 ·rename_i l1 h1 hl hh
  split at he
  ·rename_i hb
   simp at he
   obtain ⟨rfl,rfl⟩:=he
   refine ⟨?_,hb.1,hb.2⟩
   have bh:∀(v:Value),hi'=some v→∃k i,v=.int k i∧0≤i∧i.toNat=h1:=by
    intro v hv
    subst hv
    cases hi with
    | none=>exact hhi.elim
    | some u=>exact natOf_inv hh hhi
   have bh0:hi'=none→h1=n:=by
    intro hv
    subst hv
    cases hi with
    | none=>simpa using hh.symm
    | some u=>exact hhi.elim
   have bl:∀(v:Value),lo'=some v→∃k i,v=.int k i∧0≤i∧i.toNat=l1:=by
    intro v hv
    subst hv
    cases lo with
    | none=>exact hlo.elim
    | some u=>exact natOf_inv hl hlo
   have bl0:lo'=none→l1=0:=by
    intro hv
    subst hv
    cases lo with
    | none=>simpa using hl.symm
    | some u=>exact hlo.elim
   unfold Instr.sliceBounds
   cases hi' with
   | none=>
    obtain rfl:=bh0 rfl
    cases lo' with
    | none=>obtain rfl:=bl0 rfl;simp
    | some v=>
     obtain ⟨k,i,rfl,h0,rfl⟩:=bl v rfl
     have:i≤(h1:Int):=by omega
     simp [Instr.sliceBound,asIntOf,h0,this]
   | some u=>
    obtain ⟨k,i,rfl,h0,rfl⟩:=bh u rfl
    have hic:i≤(cap:Int):=by omega
    cases lo' with
    | none=>obtain rfl:=bl0 rfl;simp [Instr.sliceBound,asIntOf,h0,hic]
    | some v=>
     obtain ⟨k2,j,rfl,h2,rfl⟩:=bl v rfl
     have:j≤i:=by omega
     simp [Instr.sliceBound,asIntOf,h0,hic,h2,this,Int.toNat_of_nonneg h0]
  ·cases he
 ·cases he

theorem extract_bytes (s:ByteArray) (l h:Nat):s.extract l h=⟨(((bytes s).take h).drop l).toArray⟩:=by
 apply ByteArray.ext
 apply Array.ext'
 simp only [bytes,ByteArray.data_extract,Array.toList_extract,List.drop_take]

theorem run_iSlS {ρ:RMap} {t:TypeId} {x x' v:Value} {lo hi lo' hi':Option Value} (ht:P.underlying t=some .string) (h:iSlS x lo hi=some v) (hx:VRel ρ x x')
  (hlo:OptRel ρ lo lo') (hhi:OptRel ρ hi hi'):(Instr.sliceAt t x' lo' hi' none).run P w=.ok v w∧VRel ρ v v:=by
 unfold iSlS at h
 split at h
 ·rename_i s
  rw [hx.string_inv]
  simp only [Option.map_eq_some_iff,Prod.exists] at h
  obtain ⟨l,u,hb,rfl⟩:=h
  obtain ⟨hr,h1,h2⟩:=run_iBounds (P:=P) w (isSlice:=false) hb (Nat.le_refl _) hlo hhi
  refine ⟨?_,VRel.S _ _⟩
  rw [←size_bytes] at hr
  simp [Instr.sliceAt,Instr.slice,run_underlying ht,hr,S,extract_bytes]
 ·cases h

theorem run_iSlSl {ρ:RMap} {t e:TypeId} {x x' v:Value} {lo hi lo' hi':Option Value} (hH:∀i r,ρ i=some r→r.esz=P.cellsOf r.elem) (ht:P.underlying t=some (.slice e)) (hk:infoOk P e=true)
  (h:iSlSl e (P.cellsOf e) x lo hi=some v) (hx:VRel ρ x x') (hlo:OptRel ρ lo lo') (hhi:OptRel ρ hi hi'):
  ∃v',(Instr.sliceAt t x' lo' hi' none).run P w=.ok v' w∧VRel ρ v v':=by
 unfold iSlSl at h
 split at h
 ·simp only [Option.map_eq_some_iff,Prod.exists] at h
  obtain ⟨l,u,hb,rfl⟩:=h
  obtain ⟨hr,h1,h2⟩:=run_iBounds (P:=P) w (isSlice:=true) hb (Nat.le_refl _) hlo hhi
  cases hx
  refine ⟨_,?_,.nilSlice⟩
  obtain rfl:u=0:=by omega
  obtain rfl:l=0:=by omega
  simp [Instr.sliceAt,Instr.slice,run_underlying ht,hr,run_sizeOf' w hk]
 ·rename_i id o e' n c
  split at h
  ·rename_i hee
   subst hee
   simp only [Option.map_eq_some_iff,Prod.exists] at h
   obtain ⟨l,u,hb,rfl⟩:=h
   cases hx with
   | slice hr ho hn hc hbd=>
    rename_i o' c' r
    obtain ⟨hrun,h1,h2⟩:=run_iBounds (P:=P) w (isSlice:=true) hb hn hlo hhi
    have hes:=hH _ _ hr
    by_cases hcl:c'=l
    ·refine ⟨.slice (some ⟨r.blk,o',none⟩) (u-l) (c' -l),?_,?_⟩
     ·rw [hcl] at hrun⊢
      simp [Instr.sliceAt,Instr.slice,run_underlying ht,hrun,run_sizeOf' w hk]
     ·refine VRel.slice hr ?_ (by omega) (by omega) ?_
      ·rcases Nat.eq_zero_or_pos (l*P.cellsOf r.elem) with hz | hz
       ·rw [hz]
        rcases ho with ho | ⟨q1,q2,q3⟩
        ·exact .inl (by omega)
        ·exact .inr ⟨by omega,by omega,by omega⟩
       ·exact .inr ⟨by omega,by omega,by omega⟩
      ·have:c' -l=0:=by omega
       rw [this]
       have:o'≤o'+c'*r.esz:=Nat.le_add_right _ _
       omega
    ·refine ⟨.slice (some ⟨r.blk,o'+l*P.cellsOf r.elem,none⟩) (u-l) (c' -l),?_,?_⟩
     ·simp [Instr.sliceAt,Instr.slice,run_underlying ht,hrun,run_sizeOf' w hk,hcl,Addr.add_lit]
     ·refine VRel.slice hr ?_ (by omega) (by omega) ?_
      ·rcases ho with ho | ⟨q1,q2,q3⟩
       ·exact .inl (by omega)
       ·exfalso;omega
      ·rw [←hes]
       have e1:l*r.esz+(c' -l)*r.esz=c'*r.esz:=by rw [←Nat.add_mul];congr 1;omega
       omega
  ·cases h
 ·cases h

theorem run_iNilck {ρ:RMap} {o:Oper} {ox:Operand} {g':Operand→Value} {x v:Value} (ho:o.op=.nilCheck ox) (h:iNilck x=some v) (hx:VRel ρ x (g' ox)):
  ∃v',(execOp g' o).run P w=.ok (.value v') w∧VRel ρ v v':=by
 unfold iNilck at h
 split at h
 ·simp at h
  subst h
  generalize hy:g' ox=y at hx
  have hx':=hx
  cases hx with
  | ptr hr=>
   refine ⟨_,?_,hx'⟩
   simp [execOp,ho,hy]
 ·simp at h
  subst h
  generalize hy:g' ox=y at hx
  have hx':=hx
  cases hx with
  | func f a b c d=>
   refine ⟨_,?_,hx'⟩
   simp [execOp,ho,hy]
  | yield hr=>
   refine ⟨_,?_,hx'⟩
   simp [execOp,ho,hy]
 ·cases h

theorem run_iExt {ρ:RMap} {x x' v:Value} {i:Nat} (h:iExt i x=some v) (hx:VRel ρ x x'):∃v',(Instr.extract x' i).run P w=.ok v' w∧VRel ρ v v':=by
 unfold iExt at h
 split at h
 ·cases hx with
  | tuple hs hr=>
   obtain ⟨y,hy,hv⟩:=(VsRel.toArr hs hr).get (k:=i) (x:=v) (by simpa using h)
   refine ⟨y,?_,hv⟩
   simp only [Array.getElem?_toList] at hy
   simp [Instr.extract,hy]
 ·cases h

end

theorem VsRel.map_ev {ρ:RMap} {g g':Operand→Value} (hg:∀x,opdOk x=true→VRel ρ (g x) (g' x)):∀{xs:List Operand},xs.all opdOk=true→VsRel ρ (xs.map g) (xs.map g')
 | [],_=>.nil
 | x::xs,h=>by
  simp at h
  exact .cons (hg x h.1) (VsRel.map_ev hg (by simpa using h.2))

end Go.Sim


namespace Go.Sim

theorem setAt_cons (l:List Value) (o:Nat) (v:Value) (vs:List Value) (h:o<l.length):setAt (l.set o v) (o+1) vs=setAt l o (v::vs):=by
 have e:l.set o v=l.take o++v::l.drop (o+1):=by rw [List.set_eq_take_append_cons_drop,if_pos h]
 have hl:(l.take o).length=o:=by simp;omega
 unfold setAt
 have e1:(l.set o v).take (o+1)=l.take o++[v]:=by
  rw [e,List.take_append,hl,List.take_of_length_le (by omega)]
  simp
 have e2:(l.set o v).drop (o+1+vs.length)=l.drop (o+(v::vs).length):=by
  rw [List.drop_set,if_pos (by omega)]
  congr 1
  simp
  omega
 rw [e1,e2]
 simp

theorem setFold_eq (vs:List Value):∀(off i:Nat) (cs:Array Value),off+i+vs.length≤cs.size→
  ((vs.zipIdx i).foldl (fun cs (c,j)=>cs.setIfInBounds (off+j) c) cs).toList=setAt cs.toList (off+i) vs:=by
 induction vs with
 | nil=>intro off i cs h;simp [setAt]
 | cons v vs ih=>
  intro off i cs h
  simp only [List.zipIdx_cons,List.foldl_cons]
  rw [ih off (i+1) _ (by simp at h⊢;omega)]
  rw [Array.toList_setIfInBounds,show off+(i+1)=off+i+1 by omega]
  exact setAt_cons _ _ _ _ (by simp at h⊢;omega)

theorem setAt_rel {ρ:RMap} {xs ys:List Value} (h:VsRel ρ xs ys) {o:Nat} {vs vs':List Value} (hv:VsRel ρ vs vs'):VsRel ρ (setAt xs o vs) (setAt ys o vs'):=by
 unfold setAt
 rw [←hv.length]
 exact ((h.take o).append hv).append (h.drop _)

theorem setAt_mem {xs:List Value} {o:Nat} {vs:List Value} {p:Value→Prop} (h:∀x∈xs,p x) (hv:∀x∈vs,p x):∀x∈setAt xs o vs,p x:=by
 intro x hx
 unfold setAt at hx
 simp only [List.mem_append] at hx
 rcases hx with (hx | hx) | hx
 ·exact h x (List.mem_of_mem_take hx)
 ·exact hv x hx
 ·exact h x (List.mem_of_mem_drop hx)

inductive PartsRel (ρ:RMap) (place:Nat→Option (Nat×Nat)):List (Nat×Nat×Value)→List (Nat×Value)→Prop
 | nil:PartsRel ρ place [] []
 | cons {o s i:Nat} {v v':Value} {ps:List (Nat×Nat×Value)} {qs:List (Nat×Value)}:place i=some (o,s)→VRel ρ v v'→PartsRel ρ place ps qs→PartsRel ρ place ((o,s,v)::ps) ((i,v')::qs)

theorem fill_rel {ρ:RMap} {place:Nat→Option (Nat×Nat)} {ps:List (Nat×Nat×Value)} {qs:List (Nat×Value)} (hp:PartsRel ρ place ps qs):
  ∀{xs cs:List Value} {ys:Array Value},fillL xs ps=some cs→VsRel ρ xs ys.toList→(∀x∈xs,isCell x=true)→
   ∃cs',Instr.fill place ys qs=some cs'∧VsRel ρ cs cs'.toList∧(∀x∈cs,isCell x=true)∧cs.length=xs.length:=by
 induction hp with
 | nil=>
  intro xs cs ys h hs h1
  simp [fillL] at h
  subst h
  exact ⟨ys,by simp [Instr.fill],hs,h1,rfl⟩
 | cons hpl hv _ ih=>
  rename_i o s i v v' ps qs _
  intro xs cs ys h hs h1
  simp only [fillL] at h
  split at h
  ·rename_i hc
   obtain ⟨ht,hl,ho⟩:=hc
   have hvc:=hv.cells ht
   have hl':v'.cells.size=s:=by rw [←hl,hvc.length];simp [vcells]
   have hsz:o+v'.cells.size≤ys.size:=by have:=hs.length;simp at this;omega
   have hfold:=setFold_eq (vcells v') o 0 ys (by simp [vcells];omega)
   simp only [Nat.add_zero] at hfold
   have harr:v'.cells.zipIdx.foldl (fun cs x=>cs.setIfInBounds (o+x.2) x.1) ys=(setAt ys.toList o (vcells v')).toArray:=by
    apply Array.ext'
    rw [←hfold,←Array.foldl_toList]
    simp [vcells,Array.toList_zipIdx]
   obtain ⟨cs',hf,hr,h2,hlen⟩:=ih (ys:=(setAt ys.toList o (vcells v')).toArray) h (by simpa using setAt_rel hs hvc) (setAt_mem h1 (hv.cellsOne ht))
   refine ⟨cs',?_,hr,h2,?_⟩
   ·unfold Instr.fill
    simp only [hpl]
    rw [if_neg (by simp [hl'];omega)]
    rw [←hf,←harr]
   ·rw [hlen]
    simp [setAt]
    omega
  ·cases h

theorem zeroOf_some {P:Program} {t:TypeId} {zs:List Value} (h:zeroOf P t=some zs):
  ∃i z,P.info? t=some i∧i.zero=some z∧zs=vcells z∧noTuple z=true∧(∀x∈zs,cvOk x=true∧isCell x=true)∧zs.length=i.size:=by
 unfold zeroOf at h
 split at h
 ·rename_i i hi
  split at h
  ·rename_i z hz
   split at h
   ·rename_i hc
    simp at h
    subst h
    simp only [Bool.and_eq_true,List.all_eq_true,cellOk,beq_iff_eq] at hc
    exact ⟨i,z,hi,hz,rfl,hc.1.1,fun x hx=>hc.1.2 x hx,hc.2⟩
   ·cases h
  ·cases h
 ·cases h

theorem VsRel.closed {ρ:RMap}:∀{zs:List Value},(∀x∈zs,cvOk x=true)→VsRel ρ zs zs
 | [],_=>.nil
 | x::zs,h=>.cons (cvOk.rel (h x (by simp))) (VsRel.closed fun y hy=>h y (by simp [hy]))

section
variable {P : Program} (w : World)

theorem run_zeroValue' {t:TypeId} {i:TypeInfo} {z:Value} (hi:P.info? t=some i) (hz:i.zero=some z):(zeroValue t).run P w=.ok z w:=by
 simp [zeroValue,typeInfo,hi,hz]

theorem run_mapM_places:∀(fs:List Field),(∀f∈fs,infoOk P f.type=true)→
  (fs.mapM (m:=Sem) fun f=>do pure (f.offset,←sizeOf f.type)).run P w=.ok (fs.map fun f=>(f.offset,P.cellsOf f.type)) w
 | [],_=>rfl
 | f::fs,h=>by
  have ih:=run_mapM_places fs (fun g hg=>h g (by simp [hg]))
  simp only [List.mapM_cons,Sem.run_bind,run_sizeOf' w (h f (by simp)),Result.andThen_ok,Sem.run_pure,ih,List.map_cons]

end
end Go.Sim


namespace Go.Sim

section
variable {P : Program} (w : World) {ρ : RMap} {g g' : Operand → Value}

theorem optRel_map (hg:∀x,opdOk x=true→VRel ρ (g x) (g' x)) (l:Option Operand) (h:l.toArray.all opdOk=true):OptRel ρ (l.map g) (l.map g'):=by
 cases l with
 | none=>trivial
 | some x=>exact hg x (by simpa using h)

theorem partsRel_map (hg:∀x,opdOk x=true→VRel ρ (g x) (g' x)) (place:Nat→Option (Nat×Nat)):∀(qs:List (Nat×Operand)) (ps:List (Nat×Nat×Operand)),
  qs.mapM (m:=Option) (fun (i,x)=>(place i).map fun (o,s)=>(o,s,x))=some ps→(∀q∈qs,opdOk q.2=true)→
  PartsRel ρ place (ps.map fun (o,s,x)=>(o,s,g x)) (qs.map fun (i,x)=>(i,g' x))
 | [],ps,h,_=>by
  simp at h
  subst h
  exact .nil
 | (i,x)::qs,ps,h,hq=>by
  simp only [List.mapM_cons,Option.bind_eq_bind,Option.bind_eq_some_iff] at h
  obtain ⟨p,hp,ps',hps,h⟩:=h
  simp at h
  subst h
  simp only [Option.map_eq_some_iff] at hp
  obtain ⟨⟨o,s⟩,hpl,rfl⟩:=hp
  exact .cons hpl (hg x (hq (i,x) (by simp))) (partsRel_map hg place qs ps' hps fun q hm=>hq q (by simp [hm]))

theorem partsRel_total (hg:∀x,opdOk x=true→VRel ρ (g x) (g' x)) (pl:Nat→Nat×Nat):∀(qs:List (Nat×Operand)),(∀q∈qs,opdOk q.2=true)→
  PartsRel ρ (fun i=>some (pl i)) ((qs.map fun (i,x)=>((pl i).1,(pl i).2,x)).map fun (o,s,x)=>(o,s,g x)) (qs.map fun (i,x)=>(i,g' x))
 | [],_=>.nil
 | (i,x)::qs,hq=>.cons rfl (hg x (hq (i,x) (by simp))) (partsRel_total hg pl qs fun q hm=>hq q (by simp [hm]))

theorem run_iBuild_struct {t:TypeId} {fs:Array Field} {zs:List Value} {ps:List (Nat×Nat×Value)} {qs:Array (Nat×Value)} {v:Value} (ht:P.underlying t=some (.struct fs)) (hz:zeroOf P t=some zs)
  (hk:∀f∈fs.toList,infoOk P f.type=true) (hp:PartsRel ρ ((placesOf P fs)[·]?) ps qs.toList) (h:iBuild zs ps=some v):
  ∃v',(Instr.build t qs).run P w=.ok v' w∧VRel ρ v v':=by
 obtain ⟨i,z,hi,hzz,rfl,hnt,hcl,hlen⟩:=zeroOf_some hz
 simp only [iBuild,Option.map_eq_some_iff] at h
 obtain ⟨cs,hf,rfl⟩:=h
 obtain ⟨cs',hfill,hr,h1,_⟩:=fill_rel (ys:=z.cells) hp hf (VsRel.closed fun x hx=>(hcl x hx).1) (fun x hx=>(hcl x hx).2)
 refine ⟨.agg cs',?_,?_⟩
 ·have hm:=run_mapM_places (P:=P) w fs.toList hk
  have hm':(fs.mapM (m:=Sem) fun f=>do pure (f.offset,←sizeOf f.type)).run P w=.ok (fs.toList.map fun f=>(f.offset,P.cellsOf f.type)).toArray w:=by
   rw [Array.mapM_eq_mapM_toList]
   simp only [Sem.run_map,hm,Result.andThen_ok]
  have hpl:(fun (x:Nat)=>((fs.toList.map fun f=>(f.offset,P.cellsOf f.type)).toArray)[x]?)=((placesOf P fs)[·]?):=by
   funext x
   simp [placesOf]
  simp only [Instr.build,Sem.run_bind,run_zeroValue' w hi hzz,Result.andThen_ok,run_underlying ht,hm']
  rw [hpl,hfill]
  simp
 ·have:=VRel.aggL (ρ:=ρ) hr h1
  simpa using this

theorem run_iBuild_array {t e:TypeId} {n:Nat} {zs:List Value} {ps:List (Nat×Nat×Value)} {qs:Array (Nat×Value)} {v:Value} (ht:P.underlying t=some (.array n e)) (hz:zeroOf P t=some zs)
  (hk:infoOk P e=true) (hp:PartsRel ρ (fun i=>some (i*P.cellsOf e,P.cellsOf e)) ps qs.toList) (h:iBuild zs ps=some v):
  ∃v',(Instr.build t qs).run P w=.ok v' w∧VRel ρ v v':=by
 obtain ⟨i,z,hi,hzz,rfl,hnt,hcl,hlen⟩:=zeroOf_some hz
 simp only [iBuild,Option.map_eq_some_iff] at h
 obtain ⟨cs,hf,rfl⟩:=h
 obtain ⟨cs',hfill,hr,h1,_⟩:=fill_rel (ys:=z.cells) hp hf (VsRel.closed fun x hx=>(hcl x hx).1) (fun x hx=>(hcl x hx).2)
 refine ⟨.agg cs',?_,?_⟩
 ·simp only [Instr.build,Sem.run_bind,run_zeroValue' w hi hzz,Result.andThen_ok,run_underlying ht,run_sizeOf' w hk]
  rw [hfill]
  simp
 ·have:=VRel.aggL (ρ:=ρ) hr h1
  simpa using this

theorem find_indexByte {fn:Func} (h:fn.name= "internal/bytealg.IndexByteString"):Extern.find fn=some Extern.BytealgIndexByte.indexByte:=by
 unfold Extern.find
 rw [h]
 rfl

theorem extIdx_some {f:FuncId} (h:extIdx P f=true):∃fn,P.funcs[f]?=some fn∧(fn.name== "runtime.NumGoroutine")=false∧fn.body.isNone=true∧Extern.findNext fn=none∧Extern.find fn=some Extern.BytealgIndexByte.indexByte:=by
 unfold extIdx at h
 split at h
 ·rename_i fn hf
  simp only [Bool.and_eq_true,beq_iff_eq] at h
  obtain ⟨⟨h1,h2⟩,h3⟩:=h
  exact ⟨fn,hf,by rw [h2];decide,h1,by simpa using h3,find_indexByte h2⟩
 ·cases h

theorem pure_sound {o:Oper} {po:POp} (hc:compP P o.op=some po) (hok:o.op.operands.all opdOk=true) (hH:∀i r,ρ i=some r→r.esz=P.cellsOf r.elem)
  (hg:∀x,opdOk x=true→VRel ρ (g x) (g' x)) {v:Value} (hi:ipure po g=some v):∃v',(execOp g' o).run P w=.ok (.value v') w∧VRel ρ v v':=by
 cases ho:o.op with
 | move x=>
  rw [ho] at hc hok
  simp [compP] at hc;subst hc
  simp [Op.operands] at hok
  simp [ipure] at hi;subst hi
  exact ⟨g' x,by simp [execOp,ho],hg x hok⟩
 | assign x=>
  rw [ho] at hc hok
  simp [compP] at hc;subst hc
  simp [Op.operands] at hok
  simp [ipure] at hi;subst hi
  exact ⟨g' x,by simp [execOp,ho],hg x hok⟩
 | pick c a b=>
  rw [ho] at hc hok
  simp [compP] at hc;subst hc
  simp [Op.operands] at hok
  simp only [ipure,iPick] at hi
  split at hi
  ·rename_i t ht
   have hcb:=hg c hok.1
   rw [ht] at hcb
   simp at hi;subst hi
   refine ⟨if t then g' a else g' b,by simp [execOp,ho,hcb.bool_inv,asBool],?_⟩
   cases t
   ·simpa using hg b hok.2.2
   ·simpa using hg a hok.2.1
  ·cases hi
 | binOp op t x y yt=>
  rw [ho] at hc hok
  simp [Op.operands] at hok
  have hx:=hg x hok.1
  have hy:=hg y hok.2
  simp only [compP] at hc
  have fin:∀v',(do eqGuard op t x y (g' x) (g' y);binOp op t (g' x) (g' y):Sem Value).run P w=.ok v' w→(execOp g' o).run P w=.ok (.value v') w:=by
   intro v' h
   simp only [execOp,ho]
   simp only [Sem.run_bind] at h⊢
   rw [h]
   rfl
  split at hc
  ·simp at hc;subst hc
   obtain ⟨h1,h2⟩:=run_iEqb P w (op:=.eql) t x y ‹_› rfl hi hx hy
   exact ⟨v,fin v h1,h2⟩
  ·simp at hc;subst hc
   obtain ⟨h1,h2⟩:=run_iEqb P w (op:=.neq) t x y ‹_› rfl hi hx hy
   exact ⟨v,fin v h1,h2⟩
  ·simp at hc;subst hc
   obtain ⟨h1,h2⟩:=run_iEqnil P w (op:=.eql) t x y ‹_› rfl hi hx hy
   exact ⟨v,fin v h1,h2⟩
  ·simp at hc;subst hc
   obtain ⟨h1,h2⟩:=run_iEqnil P w (op:=.neq) t x y ‹_› rfl hi hx hy
   exact ⟨v,fin v h1,h2⟩
  ·simp at hc;subst hc
   obtain ⟨h1,h2⟩:=run_iBin P w t x y hi hx hy
   exact ⟨v,fin v h1,h2⟩
 | unOp op t x=>
  rw [ho] at hc hok
  simp [compP] at hc;subst hc
  simp [Op.operands] at hok
  obtain ⟨h1,h2⟩:=run_iUn P w hi (hg x hok)
  exact ⟨v,by simp [execOp,ho,h1],h2⟩
 | convert s d x=>
  rw [ho] at hc hok
  simp [Op.operands] at hok
  simp only [compP] at hc
  split at hc
  ·rename_i k0 k hs hd
   simp at hc;subst hc
   simp only [ipure,iConv] at hi
   split at hi
   ·rename_i k1 n hx
    have:=hg x hok
    rw [hx] at this
    simp at hi;subst hi
    refine ⟨_,?_,.int _ _⟩
    simp [execOp,ho,this.int_inv,convert,run_underlying hs,run_underlying hd,Conv.intToInt]
   ·cases hi
  ·rename_i hs hd
   simp at hc;subst hc
   simp only [ipure,iSid] at hi
   split at hi
   ·rename_i z hx
    have:=hg x hok
    rw [hx] at this
    simp at hi;subst hi
    refine ⟨_,?_,.string _⟩
    simp [execOp,ho,this.string_inv,convert,run_underlying hs,run_underlying hd]
   ·cases hi
  ·cases hc
 | indexAddr t x i=>
  rw [ho] at hc hok
  simp [Op.operands] at hok
  simp only [compP] at hc
  split at hc
  ·rename_i e ht
   split at hc
   ·rename_i hk
    simp at hc;subst hc
    obtain ⟨v',h1,h2⟩:=run_iAdrSl w ht hk hi (hg x hok.1) (hg i hok.2)
    exact ⟨v',by simp [execOp,ho,h1],h2⟩
   ·cases hc
  ·rename_i n e ht
   split at hc
   ·rename_i hk
    simp at hc;subst hc
    obtain ⟨v',h1,h2⟩:=run_iAdrArr w ht hk hi (hg x hok.1) (hg i hok.2)
    exact ⟨v',by simp [execOp,ho,h1],h2⟩
   ·cases hc
  ·cases hc
 | index t x i=>
  rw [ho] at hc hok
  simp [Op.operands] at hok
  simp only [compP] at hc
  split at hc
  ·rename_i ht
   simp at hc;subst hc
   obtain ⟨h1,h2⟩:=run_iIdxS w ht hi (hg x hok.1) (hg i hok.2)
   exact ⟨v,by simp [execOp,ho,h1],h2⟩
  ·rename_i n e ht
   split at hc
   ·rename_i d hd
    split at hc
    ·rename_i hk
     simp at hc;subst hc
     simp only [Bool.and_eq_true] at hk
     obtain ⟨v',h1,h2⟩:=run_iIdxA w ht hd hk.1 hi (hg x hok.1) (hg i hok.2)
     exact ⟨v',by simp [execOp,ho,h1],h2⟩
    ·cases hc
   ·cases hc
  ·cases hc
 | fieldAddr t x f=>
  rw [ho] at hc hok
  simp [Op.operands] at hok
  simp only [compP] at hc
  split at hc
  ·rename_i fs ht
   split at hc
   ·rename_i fd hf
    split at hc
    ·rename_i hk
     simp at hc;subst hc
     simp only [Bool.and_eq_true,bne_iff_ne] at hk
     obtain ⟨v',h1,h2⟩:=run_iFadr w ht hf hk.1 hk.2 hi (hg x hok)
     exact ⟨v',by simp [execOp,ho,h1],h2⟩
    ·cases hc
   ·cases hc
  ·cases hc
 | field t x f=>
  rw [ho] at hc hok
  simp [Op.operands] at hok
  simp only [compP] at hc
  split at hc
  ·rename_i fs ht
   split at hc
   ·rename_i fd hf
    split at hc
    ·rename_i d hd
     split at hc
     ·rename_i hk
      simp at hc;subst hc
      simp only [Bool.and_eq_true] at hk
      obtain ⟨v',h1,h2⟩:=run_iFld w ht hf hd hk.1 hi (hg x hok)
      exact ⟨v',by simp [execOp,ho,h1],h2⟩
     ·cases hc
    ·cases hc
   ·cases hc
  ·cases hc
 | slice t x lo hi' mx=>
  rw [ho] at hc hok
  simp only [compP] at hc
  split at hc
  ·rename_i ht
   simp at hc;subst hc
   simp only [Op.operands,Array.all_append,Bool.and_eq_true] at hok
   obtain ⟨⟨⟨h0,h1⟩,h2⟩,_⟩:=hok
   obtain ⟨k1,k2⟩:=run_iSlS w ht hi (hg x (by simpa using h0)) (optRel_map hg lo h1) (optRel_map hg hi' h2)
   exact ⟨v,by simp [execOp,ho,k1],k2⟩
  ·rename_i e ht
   split at hc
   ·rename_i hk
    simp at hc;subst hc
    simp only [Op.operands,Array.all_append,Bool.and_eq_true] at hok
    obtain ⟨⟨⟨h0,h1⟩,h2⟩,_⟩:=hok
    obtain ⟨v',k1,k2⟩:=run_iSlSl w hH ht hk hi (hg x (by simpa using h0)) (optRel_map hg lo h1) (optRel_map hg hi' h2)
    exact ⟨v',by simp [execOp,ho,k1],k2⟩
   ·cases hc
  ·cases hc
 | nilCheck x=>
  rw [ho] at hc hok
  simp [compP] at hc;subst hc
  simp [Op.operands] at hok
  exact run_iNilck w ho hi (hg x hok)
 | makeFunc fn first captured=>
  rw [ho] at hc hok
  cases fn with
  | func f=>
   simp [compP] at hc;subst hc
   simp only [Op.operands,Array.all_append,Bool.and_eq_true] at hok
   simp [ipure] at hi;subst hi
   have h1:=VsRel.map_ev hg (xs:=first.toList) (by simpa using hok.1)
   have h2:=VsRel.map_ev hg (xs:=captured.toList) (by simpa using hok.2)
   refine ⟨.func (.func f) (first.map g') (captured.map g'),by simp [execOp,ho,Instr.makeFunc],?_⟩
   refine .func f (by simp) (by simp) ?_ ?_
   ·have:=h1.ofList
    simpa using this
   ·have:=h2.ofList
    simpa using this
  | _=>simp [compP] at hc
 | extract x i=>
  rw [ho] at hc hok
  simp [compP] at hc;subst hc
  simp [Op.operands] at hok
  obtain ⟨v',h1,h2⟩:=run_iExt (P:=P) w hi (hg x hok)
  exact ⟨v',by simp [execOp,ho,h1],h2⟩
 | build t parts=>
  rw [ho] at hc hok
  simp only [compP] at hc
  simp only [Op.operands] at hok
  have hq:∀q∈parts.toList,opdOk q.2=true:=by
   intro q hm
   rw [Array.all_eq_true'] at hok
   exact hok q.2 (by simp;exact ⟨q.1,by simpa using hm⟩)
  split at hc
  ·rename_i fs zs ht hz
   split at hc
   ·rename_i hk
    split at hc
    ·rename_i ps hps
     simp at hc;subst hc
     have hp:=partsRel_map hg ((placesOf P fs)[·]?) parts.toList ps hps hq
     have hk':∀f∈fs.toList,infoOk P f.type=true:=by
      rw [Array.all_eq_true'] at hk
      intro f hf
      exact hk f (by simpa using hf)
     obtain ⟨v',h1,h2⟩:=run_iBuild_struct w ht hz hk' (qs:=parts.map fun (i,x)=>(i,g' x)) (by simpa using hp) hi
     exact ⟨v',by simp [execOp,ho,h1],h2⟩
    ·cases hc
   ·cases hc
  ·rename_i n e zs ht hz
   split at hc
   ·rename_i hk
    simp at hc;subst hc
    have hp:=partsRel_total hg (fun i=>(i*P.cellsOf e,P.cellsOf e)) parts.toList hq
    obtain ⟨v',h1,h2⟩:=run_iBuild_array w ht hz hk (qs:=parts.map fun (i,x)=>(i,g' x)) (by simpa using hp) hi
    exact ⟨v',by simp [execOp,ho,h1],h2⟩
   ·cases hc
  ·cases hc
 | call c=>
  rw [ho] at hc hok
  obtain ⟨callee,args,argTypes⟩:=c
  cases callee with
  | builtin b=>
   simp only [Op.operands,Call.operands,Array.empty_append] at hok
   have hargs:=VsRel.map_ev hg (xs:=args.toList) (by simpa using hok)
   have fin:∀v',(∀consts,(builtin b argTypes o.type consts (args.map g')).run P w=.ok (.value v') w)→(execOp g' o).run P w=.ok (.value v') w:=by
    intro v' h
    simp [execOp,ho,resolve,invoke,h]
   cases b with
   | len=>
    simp only [compP] at hc
    split at hc
    ·rename_i x t hx ht0
     obtain rfl:args=#[x]:=Array.ext' hx
     obtain rfl:argTypes=#[t]:=Array.ext' ht0
     simp at hok
     have hr:=hg x hok
     split at hc
     ·rename_i ht
      simp at hc;subst hc
      simp only [ipure,iLenS] at hi
      split at hi
      ·rename_i s hs
       rw [hs] at hr
       simp at hi;subst hi
       refine ⟨_,fin _ ?_,.int _ _⟩
       intro consts
       simp [builtin,Builtin.len_,run_underlying ht,hr.string_inv,goInt,size_bytes]
      ·cases hi
     ·rename_i e ht
      simp at hc;subst hc
      simp only [ipure,iLenSl] at hi
      split at hi
      ·rename_i a n c hs
       rw [hs] at hr
       simp at hi;subst hi
       refine ⟨_,fin _ ?_,.int _ _⟩
       intro consts
       generalize hy:g' x=y at hr
       cases hr <;> simp [builtin,Builtin.len_,run_underlying ht,hy,goInt]
      ·cases hi
     ·rename_i n e ht
      simp at hc;subst hc
      simp [ipure] at hi;subst hi
      refine ⟨_,fin _ ?_,.int _ _⟩
      intro consts
      simp [builtin,Builtin.len_,run_underlying ht,goInt]
     ·cases hc
    ·cases hc
   | min=>
    simp [compP] at hc;subst hc
    simp only [ipure,iMinmax] at hi
    split at hi
    ·rename_i k n rest hl
     rw [hl] at hargs
     generalize hy:args.toList.map g'=ys at hargs
     cases hargs with
     | cons h1 h2=>
      rename_i y0 ys0
      have e:=h1.int_inv
      subst e
      obtain ⟨k1,k2⟩:=run_minmax (P:=P) w hi h2
      refine ⟨v,fin v ?_,k2⟩
      intro consts
      simp only [builtin,Sem.run_bind,Builtin.min_,Array.toList_map,hy]
      simp at k1
      rw [k1]
      rfl
    ·cases hi
   | max=>
    simp [compP] at hc;subst hc
    simp only [ipure,iMinmax] at hi
    split at hi
    ·rename_i k n rest hl
     rw [hl] at hargs
     generalize hy:args.toList.map g'=ys at hargs
     cases hargs with
     | cons h1 h2=>
      rename_i y0 ys0
      have e:=h1.int_inv
      subst e
      obtain ⟨k1,k2⟩:=run_minmax (P:=P) w hi h2
      refine ⟨v,fin v ?_,k2⟩
      intro consts
      simp only [builtin,Sem.run_bind,Builtin.max_,Array.toList_map,hy]
      simp at k1
      rw [k1]
      rfl
    ·cases hi
   | _=>simp [compP] at hc
  | value y=>
   cases y with
   | func f=>
    simp only [compP] at hc
    split at hc
    ·rename_i x c hx
     split at hc
     ·rename_i hf
      simp at hc;subst hc
      obtain rfl:args=#[x,c]:=Array.ext' hx
      simp [Op.operands,Call.operands] at hok
      simp only [ipure] at hi
      split at hi
      ·rename_i f' a b hgf
       split at hi
       ·rename_i hab
        obtain ⟨rfl,ha,hb⟩:=hab
        obtain rfl:=Array.eq_empty_of_size_eq_zero ha
        obtain rfl:=Array.eq_empty_of_size_eq_zero hb
        have h0:=hg (.func f') hok.1
        rw [hgf] at h0
        generalize hy:g' (.func f')=y at h0
        cases h0 with
        | func _ s1 s2 _ _=>
         rename_i xs' ys'
         obtain rfl:=Array.eq_empty_of_size_eq_zero s1.symm
         obtain rfl:=Array.eq_empty_of_size_eq_zero s2.symm
         simp only [iIdxB] at hi
         split at hi
         ·rename_i s n hs hn
          injection hi with hi
          subst hi
          have h1:=hg x hok.2.1
          have h2:=hg c hok.2.2
          rw [hs] at h1
          rw [hn] at h2
          have e1:=h1.string_inv
          have e2:=h2.int_inv
          refine ⟨_,?_,.int _ _⟩
          obtain ⟨fn,q1,q2,q3,q4,q5⟩:=extIdx_some hf
          have:=run_callFunc_extern (P:=P) q1 q2 q3 q4 q5 #[.string s,.int .u8 n] w
          simp [execOp,ho,resolve,Deferred.ofValue,invoke,hy,e1,e2]
          rw [this,Lib.run_indexByteString]
          rfl
         ·cases hi
       ·cases hi
      ·cases hi
     ·cases hc
    ·cases hc
   | _=>simp [compP] at hc
  | _=>simp [compP] at hc
 | _=>rw [ho] at hc;simp [compP] at hc

end
end Go.Sim


namespace Go.Sim

theorem CellsRel.mono {ρ ρ':RMap} (h:ρ.le ρ') {c:Array Value} {sh:Nat} {xs:List Value} (hc:CellsRel ρ c sh xs):CellsRel ρ' c sh xs:=by
 intro j x hj
 obtain ⟨h1,y,hy,hr⟩:=hc j x hj
 exact ⟨h1,y,hy,hr.mono h⟩

theorem objRel.mono {ρ ρ':RMap} {w w':World} {r:RI} {o:IObj} (hle:ρ.le ρ') (hw:w'.heap[r.blk]?=w.heap[r.blk]?) (h:objRel ρ w r o):objRel ρ' w' r o:=by
 cases o with
 | ro e xs=>
  obtain ⟨h1,c,t,fr,h2,h3,h4⟩:=h
  exact ⟨h1,c,t,fr,by rw [hw];exact h2,h3,h4.mono hle⟩
 | arr e xs=>
  obtain ⟨h1,h0,c,h2,h3,h4⟩:=h
  exact ⟨h1,h0,c,by rw [hw];exact h2,h3,h4.mono hle⟩
 | smap es=>
  obtain ⟨ents,clock,h1,h2,h3⟩:=h
  refine ⟨ents,clock,by rw [hw];exact h1,h2,?_⟩
  intro j k v hj
  obtain ⟨en,he,hk,hv⟩:=h3 j k v hj
  exact ⟨en,he,hk,hv.mono hle⟩
 | imap kd es=>
  obtain ⟨ents,clock,h1,h2,h3⟩:=h
  refine ⟨ents,clock,by rw [hw];exact h1,h2,?_⟩
  intro j k v hj
  obtain ⟨en,he,hk,hv⟩:=h3 j k v hj
  exact ⟨en,he,hk,hv.mono hle⟩
 | gmap g c es=>
  obtain ⟨h0,ents,h1,h2,h3⟩:=h
  refine ⟨h0,ents,by rw [hw];exact h1,h2,?_⟩
  intro j b k v hj
  obtain ⟨hg,en,he,hk,hb,hv⟩:=h3 j b k v hj
  exact ⟨hg,en,he,hk,hb,hv.mono hle⟩
 | iter m s n l=>
  obtain ⟨h0,rm,h1,h2⟩:=h
  exact ⟨h0,rm,hle _ _ h1,by rw [hw];exact h2⟩
 | loop c ls vs=>
  obtain ⟨rec,h1,h2,h3,h4,h5,h6,h7,h8⟩:=h
  exact ⟨rec,by rw [hw];exact h1,h2,h3,h4,h5,h6,h7,fun t=>(h8 t).mono hle⟩
 | dead=>trivial

def RMap.add (ρ:RMap) (i:Nat) (r:RI):RMap:=fun j=>if j=i then some r else ρ j

theorem RMap.le_add {ρ:RMap} {i:Nat} {r:RI} (h:ρ i=none):ρ.le (ρ.add i r):=by
 intro j s hj
 unfold RMap.add
 split
 ·rename_i e;subst e;rw [h] at hj;cases hj
 ·exact hj

theorem HRel.none {P:Program} {ρ:RMap} {h:Heap} {w:World} (H:HRel P ρ h w):ρ h.length=none:=by
 cases hr:ρ h.length with
 | none=>rfl
 | some r=>exact absurd (H.lt hr) (Nat.lt_irrefl _)

theorem objBlk {P:Program} {ρ:RMap} {h:Heap} {w:World} (H:HRel P ρ h w) {i:Nat} {r:RI} (hi:ρ i=some r) (hl:isLive h i):r.blk<w.heap.size:=by
 obtain ⟨o,ho,hr⟩:=H.obj i r hi
 obtain ⟨o',ho',hne⟩:=hl
 rw [ho] at ho'
 cases ho'
 have key:∀{x:Obj},w.heap[r.blk]?=some x→r.blk<w.heap.size:=fun h=>(Array.getElem?_eq_some_iff.1 h).1
 cases o with
 | ro e xs=>obtain ⟨_,c,_,fr,h2,_⟩:=hr;exact key h2
 | arr e xs=>obtain ⟨_,_,c,h2,_⟩:=hr;exact key h2
 | smap es=>obtain ⟨ents,clock,h1,_⟩:=hr;exact key h1
 | imap kd es=>obtain ⟨ents,clock,h1,_⟩:=hr;exact key h1
 | gmap g c es=>obtain ⟨_,ents,h1,_⟩:=hr;exact key h1
 | iter m s n l=>obtain ⟨_,rm,_,h1⟩:=hr;exact key h1
 | loop c ls vs=>obtain ⟨rec,h1,_⟩:=hr;exact key h1
 | dead=>exact absurd rfl hne

structure NewBlock (w:World) (b:Obj) (w':World):Prop where
 heap:w'.heap=w.heap.push b
 os:w'.os=w.os
 tape:w'.tape=w.tape
 output:w'.output=w.output

theorem NewBlock.alloc (w:World) (b:Obj):NewBlock w b (w.alloc b):=⟨rfl,rfl,rfl,rfl⟩
theorem NewBlock.drew (w:World) (b:Obj):NewBlock w b (w.drew.alloc b):=⟨rfl,rfl,rfl,rfl⟩

theorem NewBlock.old {w w':World} {b:Obj} (n:NewBlock w b w') {k:Nat} (h:k<w.heap.size):w'.heap[k]?=w.heap[k]?:=by
 rw [n.heap,Array.getElem?_push,if_neg (by omega)]
theorem NewBlock.new {w w':World} {b:Obj} (n:NewBlock w b w'):w'.heap[w.heap.size]?=some b:=by
 rw [n.heap,Array.getElem?_push,if_pos rfl]
theorem NewBlock.size {w w':World} {b:Obj} (n:NewBlock w b w'):w'.heap.size=w.heap.size+1:=by
 rw [n.heap];simp

theorem HRel.new {P:Program} {ρ:RMap} {h h₀:Heap} {w w':World} {b:Obj} {r:RI} {o:IObj} (H:HRel P ρ h w) (nb:NewBlock w b w') (hb:r.blk=w.heap.size) (he:r.esz=P.cellsOf r.elem)
  (hk:h₀.length=h.length) (hd:∀i:Nat,h₀[i]?=h[i]?∨h₀[i]?=some IObj.dead)
  (ho:objRel (ρ.add h.length r) w' r o):HRel P (ρ.add h.length r) (h₀++[o]) w'∧Tr ρ h w (ρ.add h.length r) (h₀++[o]) w':=by
 have hle:=RMap.le_add (r:=r) H.none
 have hmut:∀i,i<h.length→isMut (h₀++[o]) i→isMut h i:=by
  intro i hi hm
  unfold isMut at hm⊢
  rw [List.getElem?_append_left (by omega)] at hm
  rcases hd i with e | e <;> rw [e] at hm
  ·exact hm
  ·rcases hm with ⟨_,_,hm⟩ | ⟨_,hm⟩ | ⟨_,_,_,hm⟩ | ⟨_,_,hm⟩ | ⟨_,_,_,hm⟩ | ⟨_,_,_,_,hm⟩ <;> cases hm
 have hliv:∀i,i<h.length→isLive (h₀++[o]) i→isLive h i:=by
  intro i hi hm
  unfold isLive at hm⊢
  rw [List.getElem?_append_left (by omega)] at hm
  rcases hd i with e | e <;> rw [e] at hm
  ·exact hm
  ·obtain ⟨o',h1,h2⟩:=hm;cases h1;exact absurd rfl h2
 have blk:∀i s,ρ i=some s→isLive (h₀++[o]) i→s.blk<w.heap.size:=fun i s hi hl=>objBlk H hi (hliv i (H.lt hi) hl)
 constructor
 ·constructor
  ·intro i s hi
   unfold RMap.add at hi
   split at hi
   ·rename_i e
    subst e
    cases hi
    refine ⟨o,?_,ho⟩
    rw [←hk]
    simp
   ·obtain ⟨o',ho',hr⟩:=H.obj i s hi
    have hlt:=H.lt hi
    rw [List.getElem?_append_left (by omega)]
    rcases hd i with e | e
    ·refine ⟨o',by rw [e];exact ho',?_⟩
     by_cases hdead:o'=.dead
     ·subst hdead;trivial
     ·exact hr.mono hle (nb.old (objBlk H hi ⟨o',ho',hdead⟩))
    ·exact ⟨.dead,e,trivial⟩
  ·intro i j s t hi hj hst hm hl
   unfold RMap.add at hi hj
   split at hi <;> split at hj
   ·omega
   ·rename_i e1 e2
    cases hi
    have:=blk j t hj hl
    omega
   ·rename_i e1 e2
    cases hj
    have:=blk i s hi hm.live
    omega
   ·exact H.inj i j s t hi hj hst (hmut i (H.lt hi) hm) (hliv j (H.lt hj) hl)
  ·intro i s hi
   unfold RMap.add at hi
   split at hi
   ·cases hi;exact he
   ·exact H.esz i s hi
 ·exact {
   ext:=hle
   len:=by simp;omega
   dom:=fun i s hi=>H.lt hi
   kinds:=hmut
   fresh:=by
    intro i s hi hn
    unfold RMap.add at hi
    split at hi
    ·rename_i e;cases hi;exact ⟨by omega,.inl (by omega)⟩
    ·rw [hn] at hi;cases hi
   wsize:=by rw [nb.size];omega
   wblk:=fun k hk' _=>nb.old hk'
   os:=nb.os
   tape:=nb.tape
   output:=nb.output }

structure SetBlock (w:World) (k:Nat) (b:Obj) (w':World):Prop where
 here:w'.heap[k]?=some b
 other:∀j,j≠k→w'.heap[j]?=w.heap[j]?
 size:w'.heap.size=w.heap.size
 os:w'.os=w.os
 tape:w'.tape=w.tape
 output:w'.output=w.output

theorem SetBlock.row {w:World} {g:Nat} {c:Array Value} {e:TypeId} {fr:Nat×Nat} (hg:w.heap[g]?=some (.cells c e fr)) (c':Array Value):SetBlock w g (.cells c' e fr) (w.setRow g c') where
 here:=by simp [World.setRow,Array.getElem?_modify,hg]
 other:=by intro j hj;simp [World.setRow,Array.getElem?_modify,Ne.symm hj]
 size:=by simp [World.setRow]
 os:=rfl
 tape:=rfl
 output:=rfl

theorem HRel.set {P:Program} {ρ:RMap} {h:Heap} {w w':World} {b:Obj} {i:Nat} {r:RI} {o:IObj} (H:HRel P ρ h w) (hi:ρ i=some r) (hm:isMut h i) (sb:SetBlock w r.blk b w')
  (ho:objRel ρ w' r o):HRel P ρ (h.set i o) w'∧Tr ρ h w ρ (h.set i o) w':=by
 have hlt:=H.lt hi
 have hmut:∀j,isMut (h.set i o) j→isMut h j:=by
  intro j hj
  by_cases e:j=i
  ·subst e;exact hm
  ·unfold isMut at hj⊢
   rw [List.getElem?_set_ne (Ne.symm e)] at hj
   exact hj
 have hliv:∀j,isLive (h.set i o) j→isLive h j:=by
  intro j hj
  by_cases e:j=i
  ·subst e;exact hm.live
  ·unfold isLive at hj⊢
   rw [List.getElem?_set_ne (Ne.symm e)] at hj
   exact hj
 constructor
 ·constructor
  ·intro j s hj
   by_cases e:j=i
   ·subst e
    rw [hi] at hj
    cases hj
    exact ⟨o,by rw [List.getElem?_set_self hlt],ho⟩
   ·obtain ⟨o',ho',hr⟩:=H.obj j s hj
    refine ⟨o',by rw [List.getElem?_set_ne (Ne.symm e)];exact ho',?_⟩
    by_cases hdead:o'=.dead
    ·subst hdead;trivial
    ·refine hr.mono (.refl _) (sb.other _ ?_)
     intro hb
     exact e (H.inj i j r s hi hj hb.symm hm ⟨o',ho',hdead⟩).symm
  ·intro j k s t hj hk hst hm' hl
   exact H.inj j k s t hj hk hst (hmut j hm') (hliv k hl)
  ·exact H.esz
 ·exact {
   ext:=.refl _
   len:=by simp
   dom:=fun j s hj=>H.lt hj
   kinds:=fun j _ hj=>hmut j hj
   fresh:=fun j s h1 h2=>by rw [h1] at h2;cases h2
   wsize:=by rw [sb.size];exact Nat.le_refl _
   wblk:=fun k _ hno=>sb.other k fun e=>hno i r hi e.symm hm
   os:=sb.os
   tape:=sb.tape
   output:=sb.output }

theorem HRel.move {P:Program} {ρ:RMap} {h:Heap} {w w':World} {b:Obj} {i:Nat} {r:RI} {o:IObj} (H:HRel P ρ h w) (hi:ρ i=some r) (hm:isMut h i) (sb:SetBlock w r.blk b w')
  (ho:objRel (ρ.add h.length r) w' r o):HRel P (ρ.add h.length r) (h.set i .dead++[o]) w'∧Tr ρ h w (ρ.add h.length r) (h.set i .dead++[o]) w':=by
 have hlt:=H.lt hi
 have hle:=RMap.le_add (r:=r) H.none
 have get:∀j,j<h.length→j≠i→(h.set i .dead++[o])[j]?=h[j]?:=by
  intro j hj e
  rw [List.getElem?_append_left (by simpa using hj),List.getElem?_set_ne (Ne.symm e)]
 have getI:(h.set i .dead++[o])[i]?=some .dead:=by
  rw [List.getElem?_append_left (by simpa using hlt),List.getElem?_set_self hlt]
 have hmut:∀j,j<h.length→isMut (h.set i .dead++[o]) j→isMut h j∧j≠i:=by
  intro j hj hm'
  have hne:j≠i:=by
   intro e
   subst e
   unfold isMut at hm'
   rw [getI] at hm'
   rcases hm' with ⟨_,_,h1⟩ | ⟨_,h1⟩ | ⟨_,_,_,h1⟩ | ⟨_,_,h1⟩ | ⟨_,_,_,h1⟩ | ⟨_,_,_,_,h1⟩ <;> cases h1
  refine ⟨?_,hne⟩
  unfold isMut at hm'⊢
  rw [get j hj hne] at hm'
  exact hm'
 have hliv:∀j,j<h.length→isLive (h.set i .dead++[o]) j→isLive h j∧j≠i:=by
  intro j hj hm'
  have hne:j≠i:=by
   intro e
   subst e
   obtain ⟨o',h1,h2⟩:=hm'
   rw [getI] at h1
   cases h1
   exact h2 rfl
  refine ⟨?_,hne⟩
  unfold isLive at hm'⊢
  rw [get j hj hne] at hm'
  exact hm'
 constructor
 ·constructor
  ·intro j s hj
   unfold RMap.add at hj
   split at hj
   ·rename_i e
    subst e
    cases hj
    exact ⟨o,by rw [List.getElem?_append_right (by simp)];simp,ho⟩
   ·by_cases e:j=i
    ·subst e
     exact ⟨.dead,getI,trivial⟩
    ·obtain ⟨o',ho',hr⟩:=H.obj j s hj
     refine ⟨o',by rw [get j (H.lt hj) e];exact ho',?_⟩
     by_cases hdead:o'=.dead
     ·subst hdead;trivial
     ·refine hr.mono hle (sb.other _ ?_)
      intro hb
      exact e (H.inj i j r s hi hj hb.symm hm ⟨o',ho',hdead⟩).symm
  ·intro j k s t hj hk hst hm' hl
   unfold RMap.add at hj hk
   split at hj <;> split at hk
   ·omega
   ·cases hj
    obtain ⟨h1,h2⟩:=hliv k (H.lt hk) hl
    exact absurd (H.inj i k r t hi hk hst hm h1).symm h2
   ·cases hk
    obtain ⟨h1,h2⟩:=hmut j (H.lt hj) hm'
    exact absurd (H.inj j i s r hj hi hst h1 hm.live) h2
   ·exact H.inj j k s t hj hk hst (hmut j (H.lt hj) hm').1 (hliv k (H.lt hk) hl).1
  ·intro j s hj
   unfold RMap.add at hj
   split at hj
   ·cases hj;exact H.esz i r hi
   ·exact H.esz j s hj
 ·exact {
   ext:=hle
   len:=by simp
   dom:=fun j s hj=>H.lt hj
   kinds:=fun j hj hm'=>(hmut j hj hm').1
   fresh:=by
    intro j s hj hn
    unfold RMap.add at hj
    split at hj
    ·rename_i e;cases hj;exact ⟨by omega,.inr ⟨i,r,hi,rfl,hm⟩⟩
    ·rw [hn] at hj;cases hj
   wsize:=by rw [sb.size];exact Nat.le_refl _
   wblk:=fun k _ hno=>sb.other k fun e=>hno i r hi e.symm hm
   os:=sb.os
   tape:=sb.tape
   output:=sb.output }

end Go.Sim


namespace Go.Sim

inductive LOp where
 | load (agg:Bool) (n:Nat) (a:Operand)
 | b2s (x:Operand)
 | lookup (ok:Bool) (zero:Value) (m k:Operand)
 | lookupI (kd:IntKind) (ok:Bool) (zero:Value) (m k:Operand)
 | lookupG (g:GKind) (ok:Bool) (zero:Value) (m k:Operand)
 | entry (it:Operand)
 | obj (x:Operand)

inductive AOp where
 | alloc (e:TypeId) (zs:List Value)
 | mkSl (e:TypeId) (n:Nat) (zs:List Value) (parts:List (Nat×Nat×Operand))
 | make (e:TypeId) (bytes:Nat) (zs:List Value) (l c:Operand)
 | mkMapG (g:GKind)

inductive EOp where
 | fl (a:AOp)
 | store (n:Nat) (a v:Operand)
 | box (e:TypeId) (x:Operand)
 | alloc (e:TypeId) (zs:List Value)
 | mkSl (e:TypeId) (n:Nat) (zs:List Value) (parts:List (Nat×Nat×Operand))
 | make (e:TypeId) (bytes:Nat) (zs:List Value) (l c:Operand)
 | app (e:TypeId) (esz bytes:Nat) (s x:Operand)
 | mkMap
 | mkMapI (kd:IntKind)
 | mkMapG (g:GKind)
 | mupdG (g:GKind) (m k v:Operand)
 | delG (g:GKind) (m k:Operand)
 | rangeG (x:Operand)
 | next (it:Operand)
 | die
 | mupdI (kd:IntKind) (m k v:Operand)
 | mupd (m k v:Operand)
 | copy (d s:Operand)

def objCells (h:Heap) (i:Nat):Option (List Value):=
 match h[i]? with
 | some (.ro _ xs)=>some xs
 | some (.arr _ xs)=>some xs
 | _=>none

def iLoad (agg:Bool) (n:Nat) (h:Heap) (a:Value):Option Value:=
 match a with
 | .pointer (some ⟨i,o,none⟩)=>(objCells h i).bind fun xs=>iPart agg o n xs
 | _=>none

def byteOf1:Value→Option UInt8
 | .int .u8 n=>some (UInt8.ofNat n.toNat)
 | _=>none

def sliceCells (h:Heap) (esz:Nat) (x:Value):Option (List Value):=
 match x with
 | .slice none 0 0=>some []
 | .slice (some ⟨i,o,some _⟩) n _=>
  if n=0 then some [] else (objCells h i).bind fun xs=>if o+n*esz≤xs.length then some ((xs.drop o).take (n*esz)) else none
 | _=>none

def iB2s (h:Heap) (x:Value):Option Value:=(sliceCells h 1 x).bind fun cs=>(cs.mapM byteOf1).map S

def findS (k:ByteArray):List (ByteArray×Value)→Option Value
 | []=>none
 | (k',v)::es=>if k=k' then some v else findS k es

def setS (k:ByteArray) (v:Value):List (ByteArray×Value)→List (ByteArray×Value)
 | []=>[(k,v)]
 | (k',v')::es=>if k=k' then (k',v)::es else (k',v')::setS k v es

def findI (k:Int):List (Int×Value)→Option Value
 | []=>none
 | (k',v)::es=>if k=k' then some v else findI k es

def setI (k:Int) (v:Value):List (Int×Value)→List (Int×Value)
 | []=>[(k,v)]
 | (k',v')::es=>if k=k' then (k',v)::es else (k',v')::setI k v es

def iLookupI (kd:IntKind) (ok:Bool) (zero:Value) (h:Heap) (m k:Value):Option Value:=
 match m,k with
 | .map (some i),.int kd' k=>
  match h[i]? with
  | some (.imap kd'' es)=>if kd'=kd∧kd''=kd then some (if ok then .tuple #[(findI k es).getD zero,.bool (findI k es).isSome] else (findI k es).getD zero) else none
  | _=>none
 | _,_=>none

def intEq:Value→Value→Bool
 | .int k a,.int k' b=>decide (k=k')&&decide (a=b)
 | _,_=>false

def intsEq:List Value→List Value→Bool
 | [],[]=>true
 | a::asz,b::bs=>intEq a b&&intsEq asz bs
 | _,_=>false

def gkEq:Value→Value→Bool
 | .string a,.string b=>decide (bytes a=bytes b)
 | .agg asz,.agg bs=>intsEq asz.toList bs.toList
 | a,b=>intEq a b

def posG (k:Value):List (Nat×Value×Value)→Option Nat
 | []=>none
 | (_,k',_)::es=>if gkEq k k'=true then some 0 else (posG k es).map (·+1)

def findG (k:Value) (es:List (Nat×Value×Value)):Option Value:=(posG k es).bind fun j=>(es[j]?).map fun e=>e.2.2
def setG (c:Nat) (k v:Value) (es:List (Nat×Value×Value)):List (Nat×Value×Value):=
 match posG k es with
 | some j=>es.modify j fun e=>(e.1,k,v)
 | none=>es++[(c,k,v)]
def clkG (c:Nat) (k:Value) (es:List (Nat×Value×Value)):Nat:=match posG k es with | some _=>c | none=>c+1
def eraG (k:Value) (es:List (Nat×Value×Value)):List (Nat×Value×Value):=
 match posG k es with
 | some j=>es.eraseIdx j
 | none=>es

def iLookupG (g:GKind) (ok:Bool) (zero:Value) (h:Heap) (m k:Value):Option Value:=
 match m with
 | .map (some i)=>
  match h[i]? with
  | some (.gmap g' _ es)=>if g'=g∧gkIs g k=true then some (if ok then .tuple #[(findG k es).getD zero,.bool (findG k es).isSome] else (findG k es).getD zero) else none
  | _=>none
 | _=>none

def iMupdG (g:GKind) (h:Heap) (m k v:Value):Option Heap:=
 match m with
 | .map (some i)=>
  match h[i]? with
  | some (.gmap g' c es)=>if g'=g∧gkIs g k=true∧noTuple v=true then some (h.set i (.gmap g (clkG c k es) (setG c k v es))) else none
  | _=>none
 | _=>none

def iDelG (g:GKind) (h:Heap) (m k:Value):Option Heap:=
 match m with
 | .map (some i)=>
  match h[i]? with
  | some (.gmap g' c es)=>if g'=g∧gkIs g k=true then some (h.set i (.gmap g c (eraG k es))) else none
  | _=>none
 | _=>none

def iRangeG (h:Heap) (x:Value):Option (Value×Heap):=
 match x with
 | .map (some i)=>
  match h[i]? with
  | some (.gmap _ c _)=>some (.pointer (some ⟨h.length,0,none⟩),h++[.iter i c [] c])
  | _=>none
 | _=>none

def iEntry (h:Heap) (it:Value):Option Value:=
 match it with
 | .pointer (some ⟨j,0,none⟩)=>
  match h[j]? with
  | some (.iter i _ seen last)=>
   match h[i]?,seen.getLast? with
   | some (.gmap _ c es),some b=>if c=last then (es.find? fun e=>e.1==b).map fun e=>.tuple #[e.2.1,e.2.2] else none
   | _,_=>none
  | _=>none
 | _=>none

def noId:Value→Bool
 | .bool _ | .int .. | .string _ | .nilFunc | .nilIface=>true
 | .pointer none | .map none=>true
 | .slice none 0 0=>true
 | _=>false

def gcode:GKind→Value
 | .int k=>.int k 0
 | .str=>.bool true
 | .ints n k=>.agg #[.int k n]

def encObj:IObj→Option Value
 | .arr e xs=>if xs.all noId then some (.agg (.int .i64 e::xs).toArray) else none
 | .gmap g c es=>if c=0∧es.isEmpty=true then some (.tuple #[gcode g]) else none
 | _=>none

def idOf:Value→Option Nat
 | .pointer (some ⟨i,_,none⟩)=>some i
 | .slice (some ⟨i,_,_⟩) _ _=>some i
 | .map (some i)=>some i
 | _=>none

def iObj (h:Heap) (x:Value):Option Value:=(idOf x).bind fun i=>(h[i]?).bind encObj

def nexts (h:Heap) (it:Value):Option (List (Value×Heap)):=
 match it with
 | .pointer (some ⟨j,0,none⟩)=>
  match h[j]? with
  | some (.iter i since seen last)=>
   match h[i]? with
   | some (.gmap _ c es)=>
    if (!seen.isEmpty&& !es.isEmpty&&es.all fun e=>decide (last≤e.1))=true then none else
    let left:=es.filter fun e=> !seen.contains e.1
    let old:=left.filter fun e=>decide (e.1<since)
    let new:=left.filter fun e=>decide (since≤e.1)
    some ((if old.isEmpty=true then [(.tuple #[.bool false],h)] else [])++(old++new).map fun e=>(.tuple #[.bool true,e.2.1,e.2.2],h.set j (.iter i since (seen++[e.1]) c)))
   | _=>none
  | _=>none
 | _=>none

def iLookup (ok:Bool) (zero:Value) (h:Heap) (m k:Value):Option Value:=
 match m,k with
 | .map (some i),.string k=>
  match h[i]? with
  | some (.smap es)=>some (if ok then .tuple #[(findS k es).getD zero,.bool (findS k es).isSome] else (findS k es).getD zero)
  | _=>none
 | _,_=>none

def iload (o:LOp) (g:Operand→Value) (h:Heap):Option Value:=
 match o with
 | .load agg n a=>iLoad agg n h (g a)
 | .b2s x=>iB2s h (g x)
 | .lookup ok zero m k=>iLookup ok zero h (g m) (g k)
 | .lookupI kd ok zero m k=>iLookupI kd ok zero h (g m) (g k)
 | .lookupG kd ok zero m k=>iLookupG kd ok zero h (g m) (g k)
 | .entry it=>iEntry h (g it)
 | .obj x=>iObj h (g x)

def iStore (n:Nat) (h:Heap) (a v:Value):Option Heap:=
 match a with
 | .pointer (some ⟨i,o,none⟩)=>
  match h[i]? with
  | some (.arr e xs)=>if noTuple v∧(vcells v).length=n∧o+n≤xs.length then some (h.set i (.arr e (setAt xs o (vcells v)))) else none
  | _=>none
 | _=>none

def newPtr (h:Heap):Value:=.pointer (some ⟨h.length,0,none⟩)
def sl (e:TypeId) (i o n:Nat):Value:=.slice (some ⟨i,o,some e⟩) n n

def iBox (e:TypeId) (h:Heap) (x:Value):Option (Value×Heap):=if noTuple x then some (newPtr h,h++[.arr e (vcells x)]) else none

def zrep (zs:List Value) (n:Nat):List Value:=(List.replicate n zs).flatten

def iMkSl (e:TypeId) (n:Nat) (zs:List Value) (h:Heap) (ps:List (Nat×Nat×Value)):Option (Value×Heap):=
 (fillL (zrep zs n) ps).map fun cs=>(sl e h.length 0 n,h++[.arr e cs])

def iMake (e:TypeId) (bytes:Nat) (zs:List Value) (h:Heap) (l c:Value):Option (Value×Heap):=
 match l,c with
 | .int _ l,.int _ c=>if 0≤l∧l≤c∧(bytes:Int)*c≤281474976710656∧c≤9223372036854775807 then some (sl e h.length 0 l.toNat,h++[.arr e (zrep zs l.toNat)]) else none
 | _,_=>none

def lenOfSl:Value→Option Nat
 | .slice none 0 0=>some 0
 | .slice (some _) n _=>some n
 | _=>none

def iApp (e:TypeId) (esz bytes:Nat) (h:Heap) (s x:Value):Option (Value×Heap):=
 match sliceCells h esz x,lenOfSl x with
 | some news,some m=>
  match s with
  | .slice none 0 0=>
   if m=0 then some (s,h) else
   if m*bytes≤140737488355328∧m≤maxLen then some (sl e h.length 0 m,h++[.arr e news]) else none
  | .slice (some ⟨i,0,some e'⟩) n _=>
   match h[i]? with
   | some (.arr e'' xs)=>
    if e'=e∧e''=e∧xs.length=n*esz∧(n+m)*bytes≤140737488355328∧n+m≤maxLen then
     if m=0 then some (s,h) else some (sl e h.length 0 (n+m),h.set i .dead++[.arr e (xs++news)])
    else none
   | _=>none
  | _=>none
 | _,_=>none

def iMupd (h:Heap) (m k v:Value):Option Heap:=
 match m,k with
 | .map (some i),.string k=>
  match h[i]? with
  | some (.smap es)=>some (h.set i (.smap (setS k v es)))
  | _=>none
 | _,_=>none

def iMupdI (kd:IntKind) (h:Heap) (m k v:Value):Option Heap:=
 match m,k with
 | .map (some i),.int kd' k=>
  match h[i]? with
  | some (.imap kd'' es)=>if kd'=kd∧kd''=kd then some (h.set i (.imap kd (setI k v es))) else none
  | _=>none
 | _,_=>none

def oMupdG (kd:GKind) (h:Heap) (m k v:Value):Option (Value×Heap):=(iMupdG kd h m k v).map fun h'=>(undef,h')
def oDelG (kd:GKind) (h:Heap) (m k:Value):Option (Value×Heap):=(iDelG kd h m k).map fun h'=>(.tuple #[],h')
def iMkMapG (kd:GKind) (h:Heap):Option (Value×Heap):=some (.map (some h.length),h++[.gmap kd 0 []])
def oStore (n:Nat) (h:Heap) (a v:Value):Option (Value×Heap):=(iStore n h a v).map fun h'=>(undef,h')
def iAlloc (e:TypeId) (zs:List Value) (h:Heap):Option (Value×Heap):=some (newPtr h,h++[.arr e zs])
def iCopy (h:Heap) (d s:Value):Option (Value×Heap):=
 match lenOfSl d,lenOfSl s,sliceCells h 1 s with
 | some n,some m,some cs=>
  if Nat.min m n=0 then some (.int .i64 0,h) else
  match d with
  | .slice (some ⟨i,o,some _⟩) _ _=>
   match h[i]? with
   | some (.arr e xs)=>if o+Nat.min m n≤xs.length then some (.int .i64 (Nat.min m n:Nat),h.set i (.arr e (setAt xs o (cs.take (Nat.min m n))))) else none
   | _=>none
  | _=>none
 | _,_,_=>none

def ieff (o:EOp) (g:Operand→Value) (h:Heap):Option (Value×Heap):=
 match o with
 | .fl a=>match a with
  | .alloc e zs=>some (newPtr h,h++[.arr e zs])
  | .mkSl e n zs ps=>iMkSl e n zs h (ps.map fun (o,s,x)=>(o,s,g x))
  | .make e bytes zs l c=>iMake e bytes zs h (g l) (g c)
  | .mkMapG kd=>some (.map (some h.length),h++[.gmap kd 0 []])
 | .store n a v=>(iStore n h (g a) (g v)).map fun h'=>(undef,h')
 | .box e x=>iBox e h (g x)
 | .alloc e zs=>some (newPtr h,h++[.arr e zs])
 | .mkSl e n zs ps=>iMkSl e n zs h (ps.map fun (o,s,x)=>(o,s,g x))
 | .make e bytes zs l c=>iMake e bytes zs h (g l) (g c)
 | .app e esz bytes s x=>iApp e esz bytes h (g s) (g x)
 | .mkMap=>some (.map (some h.length),h++[.smap []])
 | .mupd m k v=>(iMupd h (g m) (g k) (g v)).map fun h'=>(undef,h')
 | .mkMapI kd=>some (.map (some h.length),h++[.imap kd []])
 | .die=>none
 | .next _=>none
 | .mkMapG kd=>some (.map (some h.length),h++[.gmap kd 0 []])
 | .mupdG kd m k v=>(iMupdG kd h (g m) (g k) (g v)).map fun h'=>(undef,h')
 | .delG kd m k=>(iDelG kd h (g m) (g k)).map fun h'=>(.tuple #[],h')
 | .rangeG x=>iRangeG h (g x)
 | .mupdI kd m k v=>(iMupdI kd h (g m) (g k) (g v)).map fun h'=>(undef,h')
 | .copy d s=>iCopy h (g d) (g s)

def AOp.toE:AOp→EOp
 | .alloc e zs=>.alloc e zs
 | .mkSl e n zs ps=>.mkSl e n zs ps
 | .make e b zs l c=>.make e b zs l c
 | .mkMapG g=>.mkMapG g

def EOp.toA:EOp→Option AOp
 | .alloc e zs=>some (.alloc e zs)
 | .mkSl e n zs ps=>some (.mkSl e n zs ps)
 | .make e b zs l c=>some (.make e b zs l c)
 | .mkMapG g=>some (.mkMapG g)
 | _=>none

def allocOf (a:AOp) (g:Operand→Value):Option ((Nat→Value)×IObj):=
 match a with
 | .alloc e zs=>some (fun i=>.pointer (some ⟨i,0,none⟩),.arr e zs)
 | .mkSl e n zs ps=>(fillL (zrep zs n) (ps.map fun (o,s,x)=>(o,s,g x))).map fun cs=>(fun i=>sl e i 0 n,.arr e cs)
 | .make e bytes zs l c=>
  match g l,g c with
  | .int _ l,.int _ c=>if 0≤l∧l≤c∧(bytes:Int)*c≤281474976710656∧c≤9223372036854775807 then some (fun i=>sl e i 0 l.toNat,.arr e (zrep zs l.toNat)) else none
  | _,_=>none
 | .mkMapG g=>some (fun i=>.map (some i),.gmap g 0 [])

theorem ieff_fl (a:AOp) (g:Operand→Value) (h:Heap):ieff (.fl a) g h=(allocOf a g).map fun p=>(p.1 h.length,h++[p.2]):=by
 cases a with
 | alloc e zs=>rfl
 | mkSl e n zs ps=>simp only [ieff,allocOf,iMkSl,Option.map_map];rfl
 | make e b zs l c=>
  simp only [ieff,allocOf,iMake]
  split
  ·split <;> rfl
  ·rfl
 | mkMapG g=>rfl

theorem ieff_toE (a:AOp) (g:Operand→Value) (h:Heap):ieff a.toE g h=ieff (.fl a) g h:=by cases a <;> rfl

theorem toA_toE {e:EOp} {a:AOp} (h:e.toA=some a):a.toE=e:=by
 cases e <;> simp [EOp.toA] at h <;> subst h <;> rfl

theorem allocOf_id {a:AOp} {g:Operand→Value} {V:Nat→Value} {o:IObj} (h:allocOf a g=some (V,o)):∀i,idOf (V i)=some i:=by
 cases a with
 | mkMapG g=>simp [allocOf] at h;obtain ⟨rfl,_⟩:=h;intro i;rfl
 | alloc e zs=>simp [allocOf] at h;obtain ⟨rfl,_⟩:=h;intro i;rfl
 | mkSl e n zs ps=>simp only [allocOf,Option.map_eq_some_iff,Prod.mk.injEq] at h;obtain ⟨_,_,rfl,_⟩:=h;intro i;rfl
 | make e b zs l c=>
  simp only [allocOf] at h
  split at h
  ·split at h
   ·simp at h;obtain ⟨rfl,_⟩:=h;intro i;rfl
   ·cases h
  ·cases h

def zero1 (P:Program) (t:TypeId):Option Value:=
 match P.info? t with
 | some i=>match i.zero with
  | some z=>if cellOk z then some z else none
  | none=>none
 | none=>none

def isString (P:Program) (t:TypeId):Bool:=match P.underlying t with | some .string=>true | _=>false

def isIntK (P:Program) (t:TypeId):Option IntKind:=match P.underlying t with | some (.int k)=>some k | _=>none

def zvOk:Value→Bool
 | .agg cs=>cs.toList.all cellOk
 | v=>cvOk v

def zeroG (P:Program) (t:TypeId):Option Value:=
 match P.info? t with
 | some i=>match i.zero with
  | some z=>if zvOk z then some z else none
  | none=>none
 | none=>none

def gkOf (P:Program) (t:TypeId):Option GKind:=
 match P.underlying t with
 | some (.map kt et)=>
  match P.underlying et with
  | some (.int _)=>none
  | _=>
   match P.underlying kt with
   | some .string=>some .str
   | some (.int k)=>some (.int k)
   | some (.array n e)=>
    match P.underlying e with
    | some (.int k)=>if (P.cellsOf e==1&&P.cellsOf kt==n&& !(P.types.size==0))=true then some (.ints n k) else none
    | _=>none
   | _=>none
 | _=>none

def compL (P:Program):Op→Option LOp
 | .load t a=>
  match P.underlying t with
  | some d=>if infoOk P t&&(isAggD d||P.cellsOf t==1) then some (.load (isAggD d) (P.cellsOf t) a) else none
  | none=>none
 | .entry it=>some (.entry it)
 | .convert s d x=>
  match P.underlying s,P.underlying d with
  | some (.slice e),some .string=>match P.underlying e with | some (.int .u8)=>some (.b2s x) | _=>none
  | _,_=>none
 | .lookup t m k ok=>
  match gkOf P t with
  | some g=>match P.underlying t with
   | some (.map _ et)=>(zeroG P et).map fun z=>.lookupG g ok z m k
   | _=>none
  | none=>
  match P.underlying t with
  | some (.map kt et)=>if isString P kt then (zero1 P et).map fun z=>.lookup ok z m k else (isIntK P kt).bind fun kd=>(zero1 P et).map fun z=>.lookupI kd ok z m k
  | _=>none
 | _=>none

def compE (P:Program):Op→Option EOp
 | .store t a v=>if infoOk P t then some (.store (P.cellsOf t) a v) else none
 | .box e x=>some (.box e x)
 | .alloc e=>(zeroOf P e).map fun zs=>.alloc e zs
 | .buildSlice t n ps=>
  match P.underlying t with
  | some (.slice e)=>
   match zeroOf P e with
   | some zs=>if n*P.cellsOf e≤16777216∧P.cellsOf e≠0 then some (.mkSl e n zs (ps.toList.map fun (i,x)=>(i*P.cellsOf e,P.cellsOf e,x))) else none
   | none=>none
  | _=>none
 | .makeSlice t l c=>
  match P.underlying t with
  | some (.slice e)=>
   match zeroOf P e with
   | some zs=>some (.make e (P.bytesOf e) zs l c)
   | none=>none
  | _=>none
 | .call { callee:=.builtin .append,args,argTypes }=>
  match args.toList,argTypes.toList with
  | [s,x],[t,t']=>
   if t=t' then
    match P.underlying t with
    | some (.slice e)=>
     match zeroOf P e with
     | some _=>some (.app e (P.cellsOf e) (P.bytesOf e) s x)
     | none=>none
    | _=>none
   else none
  | _,_=>none
 | .makeMap t none=>
  match gkOf P t with
  | some g=>some (.mkMapG g)
  | none=>
  match P.underlying t with
  | some (.map kt _)=>some (match isIntK P kt with | some kd=>.mkMapI kd | none=>.mkMap)
  | _=>some .mkMap
 | .mapUpdate t m k v | .insert t m k v=>
  match gkOf P t with
  | some g=>some (.mupdG g m k v)
  | none=>
  match P.underlying t with
  | some (.map kt _)=>if isString P kt then some (.mupd m k v) else (isIntK P kt).map fun kd=>.mupdI kd m k v
  | _=>none
 | .call { callee:=.builtin .delete,args,argTypes }=>
  match args.toList,argTypes[0]? with
  | [m,k],some t=>(gkOf P t).map fun g=>.delG g m k
  | _,_=>none
 | .call { callee:=.builtin .copy,args,argTypes }=>
  match args.toList,argTypes.toList with
  | [d,s],[t,_]=>
   match P.underlying t with
   | some (.slice e)=>if (P.info? e).map (·.size)=some 1 then some (.copy d s) else none
   | _=>none
  | _,_=>none
 | .range t x=>(gkOf P t).map fun _=>.rangeG x
 | .next it false=>some (.next it)
 | .panic _ | .makeInterface .. =>some .die
 | _=>none

end Go.Sim


namespace Go.Sim

theorem slice_inv {ρ:RMap} {i o n:Nat} {e:TypeId} {y:Value} (h:VRel ρ (.slice (some ⟨i,o,some e⟩) n n) y):
  ∃r o' c',ρ i=some r∧r.elem=e∧y=.slice (some ⟨r.blk,o',none⟩) n c'∧(o'=r.sh+o∨(n=0∧0<o∧c'=0))∧n≤c'∧c'≤maxLen∧o'+c'*r.esz≤r.size:=by
 cases h with
 | slice hr a b c d=>exact ⟨_,_,_,hr,rfl,rfl,a,b,c,d⟩

theorem VRel.down {ρ ρ':RMap} (hle:ρ.le ρ') {x y0:Value} (h0:VRel ρ x y0):∀{y:Value},VRel ρ' x y→VRel ρ x y:=by
 have same:∀{i:Nat} {r r':RI},ρ i=some r→ρ' i=some r'→r'=r:=fun h h'=>by rw [hle _ _ h] at h';cases h';rfl
 induction h0 with
 | bool b=>intro y h;cases h;exact .bool b
 | int k n=>intro y h;cases h;exact .int k n
 | string s=>intro y h;cases h;exact .string s
 | nilPtr=>intro y h;cases h;exact .nilPtr
 | nilSlice=>intro y h;cases h;exact .nilSlice
 | nilMap=>intro y h;cases h;exact .nilMap
 | nilFunc=>intro y h;cases h;exact .nilFunc
 | nilIface=>intro y h;cases h;exact .nilIface
 | ptr hi=>intro y h;cases h with | ptr hi'=>cases same hi hi';exact .ptr hi
 | slice hi a b c d=>
  intro y h
  obtain ⟨r',o',c',h1,h2,rfl,h3,h4,h5,h6⟩:=slice_inv h
  cases same hi h1
  exact .slice hi h3 h4 h5 h6
 | void a=>intro y h;cases h;exact .void _
 | map hi=>intro y h;cases h with | map hi'=>cases same hi hi';exact .map hi
 | yield hi=>intro y h;cases h with | yield hi'=>cases same hi hi';exact .yield hi
 | func f s1 s2 _ _ ih1 ih2=>
  intro y h
  cases h with
  | func _ t1 t2 q1 q2=>
   refine .func f t1 t2 (fun k x x' e e'=>?_) (fun k x x' e e'=>?_)
   ·obtain ⟨z,hz⟩:∃z,_=some z:=⟨_,Array.getElem?_eq_getElem (by rw [←s1];exact (Array.getElem?_eq_some_iff.1 e).1)⟩
    exact ih1 k x z e hz (q1 k x x' e e')
   ·obtain ⟨z,hz⟩:∃z,_=some z:=⟨_,Array.getElem?_eq_getElem (by rw [←s2];exact (Array.getElem?_eq_some_iff.1 e).1)⟩
    exact ih2 k x z e hz (q2 k x x' e e')
 | agg s1 hc _ ih=>
  intro y h
  cases h with
  | agg t1 _ q1=>
   refine .agg t1 hc (fun k x x' e e'=>?_)
   obtain ⟨z,hz⟩:∃z,_=some z:=⟨_,Array.getElem?_eq_getElem (by rw [←s1];exact (Array.getElem?_eq_some_iff.1 e).1)⟩
   exact ih k x z e hz (q1 k x x' e e')
 | any v=>intro y _;exact .any y
 | tuple s1 _ ih=>
  intro y h
  cases h with
  | tuple t1 q1=>
   refine .tuple t1 (fun k x x' e e'=>?_)
   obtain ⟨z,hz⟩:∃z,_=some z:=⟨_,Array.getElem?_eq_getElem (by rw [←s1];exact (Array.getElem?_eq_some_iff.1 e).1)⟩
   exact ih k x z e hz (q1 k x x' e e')

theorem CellsRel.down {ρ ρ':RMap} (hle:ρ.le ρ') {c c':Array Value} {sh sh':Nat} {xs:List Value} (h0:CellsRel ρ c sh xs) (h:CellsRel ρ' c' sh' xs):CellsRel ρ c' sh' xs:=by
 intro j x hj
 obtain ⟨_,y0,_,r0⟩:=h0 j x hj
 obtain ⟨c1,y,hy,r⟩:=h j x hj
 exact ⟨c1,y,hy,r0.down hle r⟩

theorem objRel.down {ρ ρ':RMap} (hle:ρ.le ρ') {w w':World} {r:RI} {o:IObj} (h0:objRel ρ w r o) (h:objRel ρ' w' r o):objRel ρ w' r o:=by
 cases o with
 | ro e xs=>
  obtain ⟨_,_,_,_,_,_,b4⟩:=h0
  obtain ⟨a1,c,t,fr,a2,a3,a4⟩:=h
  exact ⟨a1,c,t,fr,a2,a3,b4.down hle a4⟩
 | arr e xs=>
  obtain ⟨_,_,_,_,_,b4⟩:=h0
  obtain ⟨a1,a0,c,a2,a3,a4⟩:=h
  exact ⟨a1,a0,c,a2,a3,b4.down hle a4⟩
 | smap es=>
  obtain ⟨_,_,_,_,b3⟩:=h0
  obtain ⟨ents,clock,a1,a2,a3⟩:=h
  refine ⟨ents,clock,a1,a2,fun j k v hj=>?_⟩
  obtain ⟨_,_,_,r0⟩:=b3 j k v hj
  obtain ⟨en,e1,e2,e3⟩:=a3 j k v hj
  exact ⟨en,e1,e2,r0.down hle e3⟩
 | imap kd es=>
  obtain ⟨_,_,_,_,b3⟩:=h0
  obtain ⟨ents,clock,a1,a2,a3⟩:=h
  refine ⟨ents,clock,a1,a2,fun j k v hj=>?_⟩
  obtain ⟨_,_,_,r0⟩:=b3 j k v hj
  obtain ⟨en,e1,e2,e3⟩:=a3 j k v hj
  exact ⟨en,e1,e2,r0.down hle e3⟩
 | gmap g c es=>
  obtain ⟨_,_,_,_,b3⟩:=h0
  obtain ⟨a0,ents,a1,a2,a3⟩:=h
  refine ⟨a0,ents,a1,a2,fun j b k v hj=>?_⟩
  obtain ⟨_,_,_,_,_,r0⟩:=b3 j b k v hj
  obtain ⟨e0,en,e1,e2,e2',e3⟩:=a3 j b k v hj
  exact ⟨e0,en,e1,e2,e2',r0.down hle e3⟩
 | iter m s n l=>
  obtain ⟨_,rm0,b1,_⟩:=h0
  obtain ⟨a0,rm,a1,a2⟩:=h
  have:=hle _ _ b1
  rw [a1] at this
  cases this
  exact ⟨a0,rm0,b1,a2⟩
 | loop c ls vs=>
  obtain ⟨_,_,_,_,_,_,_,_,b8⟩:=h0
  obtain ⟨rec,a1,a2,a3,a4,a5,a6,a7,a8⟩:=h
  exact ⟨rec,a1,a2,a3,a4,a5,a6,a7,fun t=>(b8 t).down hle (a8 t)⟩
 | dead=>trivial

theorem noId.rel {ρ ρ':RMap} {v v':Value} (h:noId v=true) (hv:VRel ρ v v'):VRel ρ' v v':=by
 unfold noId at h
 split at h
 ·cases hv;exact .bool _
 ·cases hv;exact .int _ _
 ·cases hv;exact .string _
 ·cases hv;exact .nilFunc
 ·cases hv;exact .nilIface
 ·cases hv;exact .nilPtr
 ·cases hv;exact .nilMap
 ·cases hv;exact .nilSlice
 ·cases h

theorem HRel.garbage {P:Program} {ρ:RMap} {h:Heap} {w:World} (H:HRel P ρ h w) (os:Heap):HRel P ρ (h++os) w where
 obj i r hi:=by
  obtain ⟨o,ho,hr⟩:=H.obj i r hi
  exact ⟨o,by rw [List.getElem?_append_left (H.lt hi)];exact ho,hr⟩
 inj i j r s hi hj hb hm hl:=by
  refine H.inj i j r s hi hj hb ?_ ?_
  ·unfold isMut at hm⊢;rw [List.getElem?_append_left (H.lt hi)] at hm;exact hm
  ·unfold isLive at hl⊢;rw [List.getElem?_append_left (H.lt hj)] at hl;exact hl
 esz:=H.esz

theorem Tr.garbage {P:Program} {ρ:RMap} {h:Heap} {w:World} (H:HRel P ρ h w) (os:Heap):Tr ρ h w ρ (h++os) w where
 ext:=.refl _
 len:=by simp
 dom:=fun _ _ hi=>H.lt hi
 kinds:=fun i hi hm=>by unfold isMut at hm⊢;rw [List.getElem?_append_left hi] at hm;exact hm
 fresh:=fun i r h1 h2=>by rw [h1] at h2;cases h2
 wsize:=Nat.le_refl _
 wblk:=fun _ _ _=>rfl
 os:=rfl
 tape:=rfl
 output:=rfl

theorem iload_app {lo:LOp} {g:Operand→Value} {h:Heap} {v:Value} (os:Heap) (hl:iload lo g h=some v):iload lo g (h++os)=some v:=by
 have get:∀{i:Nat} {o:IObj},h[i]?=some o→(h++os)[i]?=some o:=by
  intro i o hi
  rw [List.getElem?_append_left (List.getElem?_eq_some_iff.1 hi).1];exact hi
 have cells:∀{i:Nat} {xs:List Value},objCells h i=some xs→objCells (h++os) i=some xs:=by
  intro i xs hc
  unfold objCells at hc⊢
  split at hc
  ·rename_i e ys hq;rw [get hq];exact hc
  ·rename_i e ys hq;rw [get hq];exact hc
  ·cases hc
 cases lo with
 | load agg n a=>
  simp only [iload,iLoad] at hl⊢
  split at hl
  ·rename_i i o _
   cases hc:objCells h i with
   | none=>rw [hc] at hl;cases hl
   | some xs=>rw [hc] at hl;rw [cells hc];exact hl
  ·cases hl
 | b2s x=>
  have sc:∀{cs:List Value},sliceCells h 1 (g x)=some cs→sliceCells (h++os) 1 (g x)=some cs:=by
   intro cs hc
   unfold sliceCells at hc⊢
   split at hc
   ·exact hc
   ·rename_i i o e n c hx
    split at hc
    ·rename_i h0;rw [if_pos h0];exact hc
    ·rename_i h0
     rw [if_neg h0]
     cases hcc:objCells h i with
     | none=>rw [hcc] at hc;cases hc
     | some xs=>rw [hcc] at hc;rw [cells hcc];exact hc
   ·cases hc
  simp only [iload,iB2s] at hl⊢
  cases hc:sliceCells h 1 (g x) with
  | none=>rw [hc] at hl;cases hl
  | some cs=>rw [hc] at hl;rw [sc hc];exact hl
 | lookup ok z m k=>
  simp only [iload,iLookup] at hl⊢
  split at hl
  ·rename_i i key hm hk
   split at hl
   ·rename_i es he;rw [get he];exact hl
   ·cases hl
  ·cases hl
 | lookupI kd ok z m k=>
  simp only [iload,iLookupI] at hl⊢
  split at hl
  ·rename_i i kd' key hm hk
   split at hl
   ·rename_i kd'' es he;rw [get he];exact hl
   ·cases hl
  ·cases hl
 | lookupG gk ok z m k=>
  simp only [iload,iLookupG] at hl⊢
  split at hl
  ·rename_i i hm
   split at hl
   ·rename_i g' c es he;rw [get he];exact hl
   ·cases hl
  ·cases hl
 | entry it=>
  simp only [iload,iEntry] at hl⊢
  split at hl
  ·rename_i j hj
   split at hl
   ·rename_i i si seen last hit
    rw [get hit]
    simp only
    split at hl
    ·rename_i gg c es b hes hb
     rw [get hes,hb]
     exact hl
    ·cases hl
   ·cases hl
  ·cases hl
 | obj x=>
  simp only [iload,iObj] at hl⊢
  cases hx:idOf (g x) with
  | none=>rw [hx] at hl;cases hl
  | some i=>
   rw [hx] at hl
   simp only [Option.bind_some] at hl⊢
   cases ho:h[i]? with
   | none=>rw [ho] at hl;cases hl
   | some o=>rw [ho] at hl;rw [get ho];exact hl

end Go.Sim


namespace Go.Sim

section
variable {P : Program} {w : World} {ρ : RMap} {h : Heap}

theorem HRel.cells (H:HRel P ρ h w) {i:Nat} {r:RI} {xs:List Value} (hi:ρ i=some r) (hx:objCells h i=some xs):
  ∃c t fr,w.heap[r.blk]?=some (.cells c t fr)∧CellsRel ρ c r.sh xs:=by
 obtain ⟨o,ho,hr⟩:=H.obj i r hi
 unfold objCells at hx
 rw [ho] at hx
 cases o with
 | ro e ys=>
  simp at hx;subst hx
  obtain ⟨h1,c,t,fr,h2,h3,h4⟩:=hr
  exact ⟨c,t,fr,h2,h4⟩
 | arr e ys=>
  simp at hx;subst hx
  obtain ⟨h1,h0,c,h2,h3,h4⟩:=hr
  subst h1
  exact ⟨c,_,(0,0),h2,by rw [h0];exact h4⟩
 | smap es=>simp at hx
 | imap kd es=>simp at hx
 | gmap g c es=>simp at hx
 | iter m s n l=>simp at hx
 | loop c ls vs=>simp at hx
 | dead=>simp at hx

theorem CellsRel.window {c:Array Value} {sh o n:Nat} {xs:List Value} (hc:CellsRel ρ c sh xs) (hl:o+n≤xs.length):
  ∃ys:List Value,VsRel ρ ((xs.drop o).take n) ys∧ys.length=n∧(∀x∈(xs.drop o).take n,isCell x=true)∧∀j v,ys[j]?=some v→c[sh+o+j]?=some v:=by
 have key:∀j,j<n→∃x y,((xs.drop o).take n)[j]?=some x∧c[sh+o+j]?=some y∧VRel ρ x y∧isCell x=true:=by
  intro j hj
  have hx:xs[o+j]?=some (xs[o+j]'(by omega)):=List.getElem?_eq_getElem _
  obtain ⟨h1,y,hy,hr⟩:=hc (o+j) _ hx
  refine ⟨_,y,?_,by rw [←hy];congr 1;omega,hr,h1⟩
  rw [List.getElem?_take,if_pos hj,List.getElem?_drop]
  exact hx
 have hlen:((xs.drop o).take n).length=n:=by simp;omega
 refine ⟨(List.range n).map fun j=>c.getD (sh+o+j) Go.undef,?_,by simp,?_,?_⟩
 ·refine VsRel.of_get (by simp;omega) ?_
  intro k x y hx hy
  have hk:k<n:=by have:=(List.getElem?_eq_some_iff.1 hx).1;omega
  obtain ⟨x',y',h1,h2,h3,_⟩:=key k hk
  rw [h1] at hx;cases hx
  simp [hk] at hy
  subst hy
  simpa [Array.getD,Array.getElem?_eq_some_iff.1 h2 |>.1,(Array.getElem?_eq_some_iff.1 h2).2] using h3
 ·intro x hx
  obtain ⟨k,hk⟩:=List.getElem?_of_mem hx
  have hk':k<n:=by have:=(List.getElem?_eq_some_iff.1 hk).1;omega
  obtain ⟨x',y',h1,h2,h3,h4⟩:=key k hk'
  rw [h1] at hk;cases hk
  exact h4
 ·intro j v hv
  by_cases hj:j<n
  ·obtain ⟨x',y',h1,h2,h3,_⟩:=key j hj
   simp [hj] at hv
   rw [h2,←hv]
   simp [Array.getElem?_eq_some_iff.1 h2 |>.1,(Array.getElem?_eq_some_iff.1 h2).2]
  ·simp [hj] at hv

theorem cell_row {g o:Nat} {c:Array Value} {t:TypeId} {fr:Nat×Nat} (hg:w.heap[g]?=some (.cells c t fr)):w.cell? ⟨g,o,none⟩=c[o]?:=by
 simp [World.cell?,hg]

theorem run_loadWin {g o n:Nat} {c:Array Value} {t:TypeId} {fr:Nat×Nat} {ys:List Value} (hg:w.heap[g]?=some (.cells c t fr)) (hl:ys.length=n) (hy:∀j v,ys[j]?=some v→c[o+j]?=some v):
  (loadCells ⟨g,o,none⟩ n).run P w=.ok ys.toArray w:=by
 subst hl
 exact run_loadCells_list w _ ys fun j v hj=>by rw [Addr.add_lit,cell_row hg];exact hy j v hj

theorem run_iLoad (H:HRel P ρ h w) {t:TypeId} {d:TypeDesc} {a a' v:Value} (ht:P.underlying t=some d) (hk:infoOk P t=true) (hi:iLoad (isAggD d) (P.cellsOf t) h a=some v) (ha:VRel ρ a a'):
  ∃v',(Instr.loadAt t a').run P w=.ok v' w∧VRel ρ v v':=by
 unfold iLoad at hi
 split at hi
 ·rename_i i o
  obtain ⟨r,hr,rfl⟩:=ha.ptr_inv
  simp only [Option.bind_eq_some_iff] at hi
  obtain ⟨xs,hx,hp⟩:=hi
  obtain ⟨c,_,fr,hb,hc⟩:=H.cells hr hx
  unfold iPart at hp
  cases hd:isAggD d
  ·rw [hd] at hp
   simp at hp
   obtain ⟨h1,y,hy,hv⟩:=hc o v hp
   refine ⟨y,?_,hv⟩
   have:w.cell? ⟨r.blk,r.sh+o,none⟩=some y:=by rw [cell_row hb,hy]
   simp [Instr.loadAt,Instr.sureAddr,loadVar,run_isAgg' w ht,hd,this]
  ·rw [hd] at hp
   simp at hp
   obtain ⟨hl,rfl⟩:=hp
   obtain ⟨ys,h1,h2,h3,h4⟩:=hc.window hl
   refine ⟨.agg ys.toArray,?_,.aggL h1 h3⟩
   simp [Instr.loadAt,Instr.sureAddr,loadVar,run_isAgg' w ht,hd,run_sizeOf' w hk,run_loadWin (P:=P) hb h2 h4]
 ·cases hi

theorem sliceCells_rel (H:HRel P ρ h w) {esz:Nat} {x x':Value} {cs:List Value} (hs:sliceCells h esz x=some cs) (hx:VRel ρ x x'):
  (x'=.slice none 0 0∧cs=[])∨(∃b o n c',x'=.slice (some ⟨b,o,none⟩) n c'∧lenOfSl x=some n∧cs.length=n*esz∧(∀v∈cs,isCell v=true)∧
   ∃ys,VsRel ρ cs ys∧∀j v,ys[j]?=some v→w.cell? ⟨b,o+j,none⟩=some v):=by
 unfold sliceCells at hs
 split at hs
 ·simp at hs;subst hs
  cases hx
  exact .inl ⟨rfl,rfl⟩
 ·rename_i i o e n c
  cases hx with
  | slice hr ho hn hc hb=>
   rename_i o' c' r
   split at hs
   ·rename_i h0
    simp at hs;subst hs;subst h0
    exact .inr ⟨_,_,_,_,rfl,rfl,by simp,by simp,[],.nil,by simp⟩
   ·rename_i h0
    simp only [Option.bind_eq_some_iff] at hs
    obtain ⟨xs,hx,hl⟩:=hs
    split at hl
    ·rename_i hle
     simp at hl;subst hl
     obtain ⟨c,_,fr,hbk,hc⟩:=H.cells hr hx
     obtain ⟨ys,h1,h2,h3,h4⟩:=hc.window hle
     have ho':o'=r.sh+o:=by
      rcases ho with ho | ⟨q1,q2,q3⟩
      ·exact ho
      ·omega
     subst ho'
     refine .inr ⟨_,_,_,_,rfl,rfl,by simp;omega,h3,ys,h1,?_⟩
     intro j v hj
     rw [cell_row hbk]
     exact h4 j v hj
    ·cases hl
 ·cases hs

theorem mapM_bytes:∀{cs:List Value} {l:List UInt8},cs.mapM byteOf1=some l→∃ns:List Int,cs=ns.map (Value.int .u8)∧l=ns.map fun n=>UInt8.ofNat n.toNat
 | [],l,h=>by simp at h;subst h;exact ⟨[],rfl,rfl⟩
 | c::cs,l,h=>by
  simp only [List.mapM_cons,Option.bind_eq_bind,Option.bind_eq_some_iff] at h
  obtain ⟨b,hb,bs,hbs,h⟩:=h
  simp at h;subst h
  obtain ⟨ns,rfl,rfl⟩:=mapM_bytes hbs
  unfold byteOf1 at hb
  split at hb
  ·rename_i n
   simp at hb;subst hb
   exact ⟨n::ns,rfl,rfl⟩
  ·cases hb

theorem VsRel.ints {ns:List Int} {k:IntKind} {ys:List Value} (h:VsRel ρ (ns.map (Value.int k)) ys):ys=ns.map (Value.int k):=by
 induction ns generalizing ys with
 | nil=>cases h;rfl
 | cons n ns ih=>
  cases h with
  | cons a b=>rw [a.int_inv,ih b];rfl

theorem push_fold (ns:List Int):∀(s:ByteArray),ns.foldl (fun r n=>r.push (UInt8.ofNat n.toNat)) s=⟨(bytes s++ns.map fun n=>UInt8.ofNat n.toNat).toArray⟩:=by
 induction ns with
 | nil=>intro s;simp [mk_bytes]
 | cons n ns ih=>
  intro s
  rw [List.foldl_cons,ih]
  simp [bytes]

theorem run_iB2s (H:HRel P ρ h w) {x x' v:Value} (hi:iB2s h x=some v) (hx:VRel ρ x x'):(Conv.bytesToString x').run P w=.ok v w∧VRel ρ v v:=by
 unfold iB2s at hi
 simp only [Option.bind_eq_some_iff,Option.map_eq_some_iff] at hi
 obtain ⟨cs,hs,l,hl,rfl⟩:=hi
 refine ⟨?_,VRel.S _ _⟩
 obtain ⟨ns,rfl,rfl⟩:=mapM_bytes hl
 rcases sliceCells_rel H hs hx with ⟨rfl,h0⟩ | ⟨b,o,n,c',rfl,_,hlen,_,ys,hy,hcell⟩
 ·have:ns=[]:=by simpa using h0
  subst this
  simp [Conv.bytesToString,S]
  rfl
 ·have e:=hy.ints
  subst e
  simp at hlen
  have hld:(loadCells ⟨b,o,none⟩ n).run P w=.ok (ns.map (Value.int .u8)).toArray w:=by
   have:=run_loadCells_list (P:=P) w ⟨b,o,none⟩ (ns.map (Value.int .u8)) (fun j v hj=>by rw [Addr.add_lit];exact hcell j v hj)
   simpa [hlen] using this
  rw [run_bytesToString w _ n c' ns hld,push_fold]
  rfl

end
end Go.Sim


namespace Go.Sim

theorem intEq_eq {a b:Value} (h:intEq a b=true):a=b:=by
 unfold intEq at h
 split at h
 ·simp only [Bool.and_eq_true,decide_eq_true_eq] at h;rw [h.1,h.2]
 ·cases h

theorem intsEq_eq:∀{a b:List Value},intsEq a b=true→a=b
 | [],[],_=>rfl
 | a::asz,b::bs,h=>by
  simp only [intsEq,Bool.and_eq_true] at h
  rw [intEq_eq h.1,intsEq_eq h.2]
 | [],_::_,h=>by cases h
 | _::_,[],h=>by cases h

theorem intsEq_self {k:IntKind}:∀{a:List Value},(∀v∈a,isIntV k v=true)→intsEq a a=true
 | [],_=>rfl
 | a::asz,h=>by
  simp only [intsEq,Bool.and_eq_true]
  refine ⟨?_,intsEq_self fun v hv=>h v (by simp [hv])⟩
  have:=h a (by simp)
  unfold isIntV at this
  split at this
  ·simp [intEq]
  ·cases this

theorem gkEq_eq {a b:Value} (h:gkEq a b=true):a=b:=by
 unfold gkEq at h
 split at h
 ·rename_i s t
  simp at h
  have:=mk_bytes s
  rw [h,mk_bytes] at this
  rw [this]
 ·rw [Array.ext' (intsEq_eq h)]
 ·exact intEq_eq h

theorem gkEq_self {g:GKind} {a:Value} (h:gkIs g a=true):gkEq a a=true:=by
 unfold gkIs at h
 split at h
 ·unfold isIntV at h
  split at h
  ·simp [gkEq,intEq]
  ·cases h
 ·simp [gkEq]
 ·simp only [Bool.and_eq_true,List.all_eq_true] at h
  exact intsEq_self fun v hv=>(h.2 v hv).1
 ·cases h

theorem gkEq_iff {g:GKind} {a b:Value} (h:gkIs g a=true):gkEq a b=true↔a=b:=⟨gkEq_eq,fun e=>e ▸ gkEq_self h⟩

theorem posG_spec {g:GKind} {k:Value} (hk:gkIs g k=true):∀es:List (Nat×Value×Value),(posG k es=none∧∀e∈es,e.2.1≠k)∨∃j e,posG k es=some j∧es[j]?=some e∧e.2.1=k
 | []=>.inl ⟨rfl,by simp⟩
 | (b,k',v)::es=>by
  simp only [posG]
  by_cases h:gkEq k k'=true
  ·rw [if_pos h]
   exact .inr ⟨0,(b,k',v),rfl,rfl,(gkEq_eq h).symm⟩
  ·rw [if_neg h]
   rcases posG_spec hk es with ⟨h1,h2⟩ | ⟨j,e,h1,h2,h3⟩
   ·refine .inl ⟨by rw [h1];rfl,?_⟩
    intro e he
    rcases List.mem_cons.1 he with rfl | he
    ·intro e'
     exact h ((gkEq_iff hk).2 e'.symm)
    ·exact h2 e he
   ·exact .inr ⟨j+1,e,by rw [h1];rfl,by simpa using h2,h3⟩

structure GLaw (P:Program) (kt:TypeId) (g:GKind):Prop where
 check:∀(w:World) (em:Bool) (v:Value),gkIs g v=true→(Instr.checkKey em 10000 kt v).run P w=.ok () w
 find:∀(w:World) (x:Value),gkIs g x=true→∀es:List MapEntry,(∀e∈es,gkIs g e.key=true)→
  ((Instr.findKey kt x es).run P w=.ok none w∧∀e∈es,e.key≠x)∨∃j e,(Instr.findKey kt x es).run P w=.ok (some (j,e.val)) w∧es[j]?=some e∧e.key=x
 stays:∀(w:World) (v:Value),gkIs g v=true→(Instr.keyThatStays v v).run P w=.ok v w

theorem plain_law {P:Program} {kt:TypeId} {g:GKind} {d:TypeDesc} (hd:P.underlying kt=some d) (hg:∀v,gkIs g v=true→MapKept.IsKey d v):GLaw P kt g where
 check w em v hv:=MapKept.run_checkKey hd (hg v hv) em 9999
 find w x hx es hes:=by
  rcases MapKept.findNow_spec (hg x hx) es 0 (fun e he=>hg _ (hes e he)) with ⟨h1,h2⟩ | ⟨j,e,h1,h2,h3⟩
  ·exact .inl ⟨MapKept.run_findKey hd h1,h2⟩
  ·exact .inr ⟨j,e,by simpa using MapKept.run_findKey hd h1,h2,h3⟩
 stays w v hv:=MapKept.run_keyThatStays (hg v hv)

section
variable {P : Program}

theorem ints_mapM {k:IntKind} {e:TypeId} {D:Nat} (he:P.underlying e=some (.int k)) (hc:P.cellsOf e=1) (cs:List Value) (h:∀v∈cs,(isIntV k v&&inRange k v)=true):
  ∀m,m≤cs.length→∃ls,((List.range m).mapM fun i=>P.keyLits (D+1) e ((cs.drop (i*P.cellsOf e)).take (P.cellsOf e)))=some ls
 | 0,_=>⟨[],rfl⟩
 | m+1,hm=>by
  obtain ⟨ls,hls⟩:=ints_mapM he hc cs h m (by omega)
  have hml:m<cs.length:=by omega
  have hv:=h cs[m] (List.getElem_mem hml)
  rw [Bool.and_eq_true] at hv
  have h1:(cs.drop (m*P.cellsOf e)).take (P.cellsOf e)=[cs[m]]:=by
   rw [hc,Nat.mul_one]
   apply List.ext_getElem?
   intro i
   rw [List.getElem?_take]
   cases i with
   | zero=>simp [hml]
   | succ i=>simp
  generalize cs[m]=v at hv h1
  obtain ⟨k',n,rfl⟩:∃k' n,v=.int k' n:=by
   cases v <;> first | exact ⟨_,_,rfl⟩ | simp [isIntV] at hv
  have hk:k'=k:=by simpa [isIntV] using hv.1
  subst hk
  have hr:k'.min≤n∧n≤k'.max:=by simpa [inRange] using hv.2
  have hw:(Lit.int k' n).wf=true:=by simp [Lit.wf,hr]
  refine ⟨ls++[[.int k' n]],?_⟩
  rw [List.range_succ,List.mapM_append,hls]
  simp [h1,Program.keyLits,he,hw]

theorem ints_law {kt e:TypeId} {n:Nat} {k:IntKind} (hu:P.underlying kt=some (.array n e)) (he:P.underlying e=some (.int k)) (hc1:P.cellsOf e=1) (hcn:P.cellsOf kt=n) (hsz:P.types.size≠0):GLaw P kt (.ints n k):=by
 have A:WideMaps.ArrKey P kt e n:=⟨hu,by simp [Program.plainKey,he],hc1,hcn⟩
 have key:∀v,gkIs (.ints n k) v=true→∃l,keyOf P kt v=some l:=by
  intro v hv
  cases v <;> simp [gkIs] at hv
  rename_i cs
  obtain ⟨h1,h2⟩:=hv
  have hkt:=A.keyType ⟨P.types.size-1,by omega⟩
  obtain ⟨D,hD⟩:∃D,P.types.size=D+1:=⟨P.types.size-1,by omega⟩
  obtain ⟨ls,hls⟩:=ints_mapM (D:=D) he hc1 cs.toList (fun v hv=>by obtain ⟨i,hi,e⟩:=List.mem_iff_getElem.1 hv;have:=h2 i (by simpa using hi);rw [←e];simpa using this) n (by simp [h1])
  refine ⟨.string (keyBytes ls.flatten),?_⟩
  unfold keyOf
  rw [hu]
  have hf:(Value.agg cs).formed P kt=true:=by simp [Value.formed,hu,hcn,h1]
  simp only [hkt,hf,Bool.and_self,if_true]
  unfold Program.keyLits
  rw [hu]
  have hl:(Value.agg cs).cells.toList.length=P.cellsOf kt:=by simp [Value.cells,hcn,h1]
  simp only [hl,if_true,hD]
  have:(Value.agg cs).cells.toList=cs.toList:=rfl
  rw [this,hls]
  rfl
 have K:=A.law
 exact {
  check:=fun w em v hv=>let ⟨l,hl⟩:=key v hv;K.check w em hl
  find:=fun w x hx es hes=>let ⟨l,hl⟩:=key x hx;K.find w hl es fun e he=>key _ (hes e he)
  stays:=fun w v hv=>let ⟨l,hl⟩:=key v hv;K.stays w hl }

theorem glaw_of {t:TypeId} {g:GKind} (h:gkOf P t=some g):∃kt et,P.underlying t=some (.map kt et)∧GLaw P kt g:=by
 unfold gkOf at h
 split at h
 ·rename_i kt et ht
  refine ⟨kt,et,ht,?_⟩
  split at h
  ·cases h
  ·split at h
   ·rename_i hk
    simp at h;subst h
    exact plain_law hk fun v hv=>by cases v <;> simp [gkIs] at hv;trivial
   ·rename_i k hk
    simp at h;subst h
    exact plain_law hk fun v hv=>by cases v <;> simp [gkIs,isIntV] at hv;exact hv
   ·rename_i n e hk
    split at h
    ·rename_i k he
     split at h
     ·rename_i hc
      simp at h;subst h
      simp at hc
      exact ints_law hk he hc.1.1 hc.1.2 (by rw [Ne,Array.size_eq_zero_iff];exact hc.2)
     ·cases h
    ·cases h
   ·cases h
 ·cases h

end

section
variable {P : Program} {w : World} {ρ : RMap} {h : Heap}

structure EntsG (ρ:RMap) (g:GKind) (es:List (Nat×Value×Value)) (ents:Array MapEntry):Prop where
 size:ents.size=es.length
 nodup:(es.map fun e=>e.2.1).Nodup
 get:∀(j b:Nat) (k v:Value),es[j]?=some (b,k,v)→gkIs g k=true∧∃en,ents[j]?=some en∧en.key=k∧en.born=b∧VRel ρ v en.val

theorem HRel.entsG (H:HRel P ρ h w) {i:Nat} {r:RI} {g:GKind} {c:Nat} {es:List (Nat×Value×Value)} (hi:ρ i=some r) (he:h[i]?=some (.gmap g c es)):
  ∃ents,w.heap[r.blk]?=some (.map ents c)∧EntsG ρ g es ents:=by
 obtain ⟨o,ho,hr⟩:=H.obj i r hi
 rw [he] at ho
 cases ho
 obtain ⟨h0,ents,h1,h2,h3⟩:=hr
 exact ⟨ents,h1,h2,h0,h3⟩

theorem EntsG.inv {g:GKind} {es:List (Nat×Value×Value)} {ents:Array MapEntry} (E:EntsG ρ g es ents) {j:Nat} {en:MapEntry} (hj:ents[j]?=some en):∃v,es[j]?=some (en.born,en.key,v)∧gkIs g en.key=true∧VRel ρ v en.val:=by
 have hlt:j<es.length:=by rw [←E.size];exact (Array.getElem?_eq_some_iff.1 hj).1
 obtain ⟨b,k,v⟩:Nat×Value×Value:=es[j]
 have hes:=List.getElem?_eq_getElem hlt
 generalize he:es[j]=x at hes
 obtain ⟨b,k,v⟩:=x
 obtain ⟨g1,en',g2,g3,g4,g5⟩:=E.get j b k v hes
 rw [hj] at g2
 cases g2
 subst g3;subst g4
 exact ⟨v,hes,g1,g5⟩

theorem run_findG {g:GKind} {kt:TypeId} {es:List (Nat×Value×Value)} {ents:Array MapEntry} (L:GLaw P kt g) (E:EntsG ρ g es ents) {k:Value} (hk:gkIs g k=true):
  ((posG k es=none∧(∀e∈es,e.2.1≠k))∧(Instr.findKey kt k ents.toList).run P w=.ok none w)∨
  ∃j b v en,posG k es=some j∧es[j]?=some (b,k,v)∧ents[j]?=some en∧en.key=k∧en.born=b∧VRel ρ v en.val∧(Instr.findKey kt k ents.toList).run P w=.ok (some (j,en.val)) w:=by
 have hall:∀e∈ents.toList,gkIs g e.key=true:=by
  intro e he
  obtain ⟨j,hj,e'⟩:=List.mem_iff_getElem.1 he
  have:ents[j]?=some e:=by
   rw [←Array.getElem?_toList,List.getElem?_eq_getElem hj,e']
  exact (E.inv this).choose_spec.2.1
 rcases L.find w k hk ents.toList hall with ⟨h1,h2⟩ | ⟨j,en,h1,h2,h3⟩
 ·rcases posG_spec hk es with ⟨p1,p2⟩ | ⟨j,e,p1,p2,p3⟩
  ·exact .inl ⟨⟨p1,p2⟩,h1⟩
  ·exfalso
   obtain ⟨b,k',v⟩:=e
   obtain ⟨_,en,q1,q2,_⟩:=E.get j b k' v p2
   have hm:en∈ents.toList:=by
    rw [←Array.getElem?_toList] at q1
    exact List.mem_of_getElem? q1
   exact h2 en hm (q2.trans p3)
 ·have h2':ents[j]?=some en:=by rw [←Array.getElem?_toList];exact h2
  obtain ⟨v,q1,q2,q3⟩:=E.inv h2'
  rcases posG_spec hk es with ⟨p1,p2⟩ | ⟨j',e,p1,p2,p3⟩
  ·exact absurd h3 (p2 _ (List.mem_of_getElem? q1))
  ·have hj:j'=j:=by
    have hn:=List.pairwise_iff_getElem.1 E.nodup
    have l1:j<es.length:=(List.getElem?_eq_some_iff.1 q1).1
    have l2:j'<es.length:=(List.getElem?_eq_some_iff.1 p2).1
    have k1:(es.map fun e=>e.2.1)[j]'(by simpa using l1)=k:=by
     have:=(List.getElem?_eq_some_iff.1 q1).2
     simp [this,h3]
    have k2:(es.map fun e=>e.2.1)[j']'(by simpa using l2)=k:=by
     have:=(List.getElem?_eq_some_iff.1 p2).2
     simp [this,p3]
    rcases Nat.lt_trichotomy j j' with hlt | heq | hlt
    ·exact absurd (k1.trans k2.symm) (hn j j' _ _ hlt)
    ·exact heq.symm
    ·exact absurd (k2.trans k1.symm) (hn j' j _ _ hlt)
   subst hj
   exact .inr ⟨_,_,v,en,p1,by rw [q1,h3],h2',h3,rfl,q3,h1⟩

theorem zvOk.rel {z:Value} (h:zvOk z=true):VRel ρ z z:=by
 unfold zvOk at h
 split at h
 ·rename_i cs
  rw [List.all_eq_true] at h
  have cl:∀x∈cs.toList,cvOk x=true∧isCell x=true:=fun x hx=>by have:=h x hx;simpa [cellOk] using this
  refine .agg rfl (fun x hx=>(cl x hx).2) (fun k x x' hx hx'=>?_)
  rw [hx] at hx'
  cases hx'
  exact cvOk.rel (cl x (by rw [←Array.getElem?_toList] at hx;exact List.mem_of_getElem? hx)).1
 ·exact cvOk.rel h

theorem run_iEntry (H:HRel P ρ h w) {it it' v:Value} (hi:iEntry h it=some v) (hv:VRel ρ it it'):∃v',(Instr.entry it').run P w=.ok v' w∧VRel ρ v v':=by
 unfold iEntry at hi
 split at hi
 ·rename_i j
  split at hi
  ·rename_i i since seen last hit
   split at hi
   ·rename_i g c es b hes hb
    split at hi
    ·rename_i hcl
     subst hcl
     cases hv with
     | ptr hr=>
      rename_i r
      obtain ⟨o,ho,hrel⟩:=H.obj j r hr
      rw [hit] at ho
      cases ho
      obtain ⟨hsh,rm,hrm,hbk⟩:=hrel
      obtain ⟨ents,hm,E⟩:=H.entsG hrm hes
      rw [hsh]
      rw [Option.map_eq_some_iff] at hi
      obtain ⟨e,he,rfl⟩:=hi
      have hfind:∃en,ents.find? (fun x=>x.born==b)=some en∧en.key=e.2.1∧gkIs g e.2.1=true∧VRel ρ e.2.2 en.val:=by
       rw [←Array.find?_toList]
       have key:∀(l1:List (Nat×Value×Value)) (l2:List MapEntry),l2.length=l1.length→(∀(j b:Nat) (k v:Value),l1[j]?=some (b,k,v)→gkIs g k=true∧∃en,l2[j]?=some en∧en.key=k∧en.born=b∧VRel ρ v en.val)→
         l1.find? (fun x=>x.1==b)=some e→∃en,l2.find? (fun x=>x.born==b)=some en∧en.key=e.2.1∧gkIs g e.2.1=true∧VRel ρ e.2.2 en.val:=by
        intro l1
        induction l1 with
        | nil=>intro l2 _ _ h;simp at h
        | cons x l1 ih=>
         intro l2 hl hall hf
         obtain ⟨bx,kx,vx⟩:=x
         cases l2 with
         | nil=>simp at hl
         | cons y l2=>
          obtain ⟨g1,en,g2,g3,g4,g5⟩:=hall 0 bx kx vx rfl
          simp at g2
          subst g2
          rw [List.find?_cons] at hf⊢
          by_cases hbx:(bx==b)=true
          ·simp only [hbx] at hf
           cases hf
           rw [g4]
           simp only [hbx]
           exact ⟨y,rfl,g3,g1,g5⟩
          ·have hbx:(bx==b)=false:=by simpa using hbx
           simp only [hbx] at hf
           rw [g4]
           simp only [hbx]
           exact ih l2 (by simpa using hl) (fun j b k v hj=>by simpa using hall (j+1) b k v (by simpa using hj)) hf
       exact key es ents.toList (by simp [E.size]) (fun j b k v hj=>by simpa using E.get j b k v hj) he
      obtain ⟨en,f1,f2,f3,f4⟩:=hfind
      have hget:(getObj r.blk).run P w=.ok (.mapIter (some rm.blk) since seen.toArray c) w:=by simp [getObj,Sem.run,hbk]
      have hgetm:(getObj rm.blk).run P w=.ok (.map ents c) w:=by simp [getObj,Sem.run,hm]
      have hback:seen.toArray.back?=some b:=by simpa using hb
      refine ⟨.tuple #[en.key,en.val],?_,?_⟩
      ·unfold Instr.entry
       simp [hget,hgetm,hb,f1]
      ·rw [f2]
       have hkr:VRel ρ e.2.1 e.2.1:=by
        have ints:∀{kd:IntKind} {v:Value},isIntV kd v=true→VRel ρ v v∧isCell v=true:=by
         intro kd v hv
         cases v <;> simp [isIntV] at hv
         exact ⟨.int _ _,rfl⟩
        cases hkey:e.2.1 with
        | int kd n=>exact .int _ _
        | string s=>exact .string _
        | agg cs=>
         rw [hkey] at f3
         cases g with
         | ints n kd=>
          simp only [gkIs,Bool.and_eq_true,List.all_eq_true] at f3
          refine .agg rfl (fun x hx=>(ints (f3.2 x hx).1).2) (fun k x x' hx hx'=>?_)
          rw [hx] at hx'
          cases hx'
          exact (ints (f3.2 x (by rw [←Array.getElem?_toList] at hx;exact List.mem_of_getElem? hx)).1).1
         | int _=>simp [gkIs,isIntV] at f3
         | str=>simp [gkIs] at f3
        | _=>rw [hkey] at f3;cases g <;> simp [gkIs,isIntV] at f3
       exact VRel.tupleL (.cons hkr (.cons f4 .nil))
    ·cases hi
   ·cases hi
  ·cases hi
 ·cases hi

theorem zeroG_some {t:TypeId} {z:Value} (hz:zeroG P t=some z):(∀w,(zeroValue t).run P w=.ok z w)∧zvOk z=true:=by
 unfold zeroG at hz
 split at hz
 ·rename_i i hi
  split at hz
  ·rename_i z' hz'
   split at hz
   ·rename_i hc
    simp at hz;subst hz
    exact ⟨fun w=>run_zeroValue' w hi hz',hc⟩
   ·cases hz
  ·cases hz
 ·cases hz

theorem VRel.key {g:GKind} {k k':Value} (hk:gkIs g k=true) (h:VRel ρ k k'):k'=k:=by
 have ints:∀{kd:IntKind} {v v':Value},isIntV kd v=true→VRel ρ v v'→v'=v:=by
  intro kd v v' hv hr
  cases hr <;> first | rfl | simp [isIntV] at hv
 cases h with
 | int=>rfl
 | string=>rfl
 | agg hs _ hall=>
  rename_i xs xs' _
  cases g with
  | ints n kd=>
   simp only [gkIs,Bool.and_eq_true,List.all_eq_true] at hk
   congr 1
   apply Array.ext
   ·exact hs.symm
   ·intro i h1 h2
    exact ints (hk.2 xs[i] (by simp)).1 (hall i _ _ (Array.getElem?_eq_getElem h2) (Array.getElem?_eq_getElem h1))
  | int _=>simp [gkIs,isIntV] at hk
  | str=>simp [gkIs] at hk
 | _=>cases g <;> simp [gkIs,isIntV] at hk

theorem run_iLookupG (H:HRel P ρ h w) {t kt et:TypeId} {g:GKind} {ok:Bool} {z m m' k k' v:Value} (hg:gkOf P t=some g) (ht:P.underlying t=some (.map kt et)) (hz:zeroG P et=some z)
  (hi:iLookupG g ok z h m k=some v) (hm:VRel ρ m m') (hkk:VRel ρ k k'):∃v',(Instr.lookup t m' k' ok).run P w=.ok v' w∧VRel ρ v v':=by
 obtain ⟨kt',et',ht',L⟩:=glaw_of hg
 rw [ht] at ht'
 cases ht'
 unfold iLookupG at hi
 split at hi
 ·rename_i i
  cases hm with
  | map hr=>
   rename_i r
   split at hi
   ·rename_i g' c es he
    split at hi
    ·rename_i hkd
     obtain ⟨rfl,hk⟩:=hkd
     rw [hkk.key hk]
     have run_getObj:∀{ents:Array MapEntry} {clock:Nat},w.heap[r.blk]?=some (.map ents clock)→(getObj r.blk).run P w=.ok (.map ents clock) w:=by
      intro ents clock hb
      simp [getObj,Sem.run,hb]
     obtain ⟨ents,hb,E⟩:=H.entsG hr he
     obtain ⟨hz1,hz2⟩:=zeroG_some hz
     rcases run_findG (w:=w) L E hk with ⟨⟨e1,_⟩,e2⟩ | ⟨j,b,u,en,e1,e2,e3,e4,e5,e6,e7⟩
     ·have:findG k es=none:=by simp [findG,e1]
      rw [this] at hi
      simp at hi
      have hrun:(Instr.lookup t (.map (some r.blk)) k ok).run P w=.ok (if ok then .tuple #[z,.bool false] else z) w:=by
       simp [Instr.lookup,run_underlying ht,run_getObj hb,L.check w _ k hk,e2,hz1]
      refine ⟨_,hrun,?_⟩
      subst hi
      cases ok
      ·exact zvOk.rel hz2
      ·exact VRel.tupleL (.cons (zvOk.rel hz2) (.cons (.bool _) .nil))
     ·have:findG k es=some u:=by simp [findG,e1,e2]
      rw [this] at hi
      simp at hi
      have hrun:(Instr.lookup t (.map (some r.blk)) k ok).run P w=.ok (if ok then .tuple #[en.val,.bool true] else en.val) w:=by
       simp [Instr.lookup,run_underlying ht,run_getObj hb,L.check w _ k hk,e7]
      refine ⟨_,hrun,?_⟩
      subst hi
      cases ok
      ·exact e6
      ·exact VRel.tupleL (.cons e6 (.cons (.bool _) .nil))
    ·cases hi
   ·cases hi
 ·cases hi

end
end Go.Sim


namespace Go.Sim

inductive EntsRel (ρ:RMap):List (ByteArray×Value)→List MapEntry→Prop
 | nil:EntsRel ρ [] []
 | cons {k:ByteArray} {v:Value} {en:MapEntry} {es:List (ByteArray×Value)} {ents:List MapEntry}:en.key=.string k→VRel ρ v en.val→EntsRel ρ es ents→EntsRel ρ ((k,v)::es) (en::ents)

theorem EntsRel.of {ρ:RMap}:∀{es:List (ByteArray×Value)} {ents:List MapEntry},ents.length=es.length→
  (∀(j:Nat) (k:ByteArray) (v:Value),es[j]?=some (k,v)→∃en,ents[j]?=some en∧en.key=.string k∧VRel ρ v en.val)→EntsRel ρ es ents
 | [],[],_,_=>.nil
 | (k,v)::es,en::ents,hl,h=>by
  obtain ⟨en',h1,h2,h3⟩:=h 0 k v rfl
  simp at h1;subst h1
  exact .cons h2 h3 (EntsRel.of (by simpa using hl) fun j k' v' hj=>by simpa using h (j+1) k' v' (by simpa using hj))

theorem EntsRel.to {ρ:RMap} {es:List (ByteArray×Value)} {ents:List MapEntry} (h:EntsRel ρ es ents):
  ents.length=es.length∧∀(j:Nat) (k:ByteArray) (v:Value),es[j]?=some (k,v)→∃en,ents[j]?=some en∧en.key=.string k∧VRel ρ v en.val:=by
 induction h with
 | nil=>exact ⟨rfl,fun j k v hj=>by simp at hj⟩
 | cons h1 h2 _ ih=>
  refine ⟨by simp [ih.1],?_⟩
  intro j k v hj
  cases j with
  | zero=>simp at hj;obtain ⟨rfl,rfl⟩:=hj;exact ⟨_,rfl,h1,h2⟩
  | succ j=>simp at hj;simpa using ih.2 j k v hj

theorem EntsRel.mono {ρ ρ':RMap} (hle:ρ.le ρ') {es:List (ByteArray×Value)} {ents:List MapEntry} (h:EntsRel ρ es ents):EntsRel ρ' es ents:=by
 induction h with
 | nil=>exact .nil
 | cons h1 h2 _ ih=>exact .cons h1 (h2.mono hle) ih

theorem find_rel {ρ:RMap} {es:List (ByteArray×Value)} {ents:List MapEntry} (h:EntsRel ρ es ents) (k:ByteArray):∀i:Nat,
  (findS k es=none∧Instr.findNow .string (.string k) ents i=some none)∨
  (∃v v' j,findS k es=some v∧Instr.findNow .string (.string k) ents i=some (some (i+j,v'))∧VRel ρ v v'∧(∃en,ents[j]?=some en∧en.key=.string k)):=by
 induction h with
 | nil=>intro i;exact .inl ⟨rfl,rfl⟩
 | cons h1 h2 _ ih=>
  rename_i k0 v0 en es ents _
  intro i
  by_cases hk:k=k0
  ·subst hk
   refine .inr ⟨v0,en.val,0,by simp [findS],?_,h2,en,rfl,h1⟩
   have hb:(k==k)=true:=(MapKept.bytes_beq k k).2 rfl
   simp [Instr.findNow,h1,Instr.sameNow,hb]
  ·have hb:(k==k0)=false:=by
    rw [Bool.eq_false_iff]
    exact fun e=>hk ((MapKept.bytes_beq k k0).1 e)
   rcases ih (i+1) with ⟨e1,e2⟩ | ⟨v,v',j,e1,e2,e3,e4⟩
   ·refine .inl ⟨by simp [findS,hk,e1],?_⟩
    simp [Instr.findNow,h1,Instr.sameNow,hb,e2]
   ·refine .inr ⟨v,v',j+1,by simp [findS,hk,e1],?_,e3,?_⟩
    ·simp [Instr.findNow,h1,Instr.sameNow,hb,e2];omega
    ·simpa using e4

inductive EntsRelI (kd:IntKind) (ρ:RMap):List (Int×Value)→List MapEntry→Prop
 | nil:EntsRelI kd ρ [] []
 | cons {k:Int} {v:Value} {en:MapEntry} {es:List (Int×Value)} {ents:List MapEntry}:en.key=.int kd k→VRel ρ v en.val→EntsRelI kd ρ es ents→EntsRelI kd ρ ((k,v)::es) (en::ents)

theorem EntsRelI.of {kd:IntKind} {ρ:RMap}:∀{es:List (Int×Value)} {ents:List MapEntry},ents.length=es.length→
  (∀(j:Nat) (k:Int) (v:Value),es[j]?=some (k,v)→∃en,ents[j]?=some en∧en.key=.int kd k∧VRel ρ v en.val)→EntsRelI kd ρ es ents
 | [],[],_,_=>.nil
 | (k,v)::es,en::ents,hl,h=>by
  obtain ⟨en',h1,h2,h3⟩:=h 0 k v rfl
  simp at h1;subst h1
  exact .cons h2 h3 (EntsRelI.of (by simpa using hl) fun j k' v' hj=>by simpa using h (j+1) k' v' (by simpa using hj))

theorem EntsRelI.to {kd:IntKind} {ρ:RMap} {es:List (Int×Value)} {ents:List MapEntry} (h:EntsRelI kd ρ es ents):
  ents.length=es.length∧∀(j:Nat) (k:Int) (v:Value),es[j]?=some (k,v)→∃en,ents[j]?=some en∧en.key=.int kd k∧VRel ρ v en.val:=by
 induction h with
 | nil=>exact ⟨rfl,fun j k v hj=>by simp at hj⟩
 | cons h1 h2 _ ih=>
  refine ⟨by simp [ih.1],?_⟩
  intro j k v hj
  cases j with
  | zero=>simp at hj;obtain ⟨rfl,rfl⟩:=hj;exact ⟨_,rfl,h1,h2⟩
  | succ j=>simp at hj;simpa using ih.2 j k v hj

theorem EntsRelI.mono {kd:IntKind} {ρ ρ':RMap} (hle:ρ.le ρ') {es:List (Int×Value)} {ents:List MapEntry} (h:EntsRelI kd ρ es ents):EntsRelI kd ρ' es ents:=by
 induction h with
 | nil=>exact .nil
 | cons h1 h2 _ ih=>exact .cons h1 (h2.mono hle) ih

theorem find_relI {kd:IntKind} {ρ:RMap} {es:List (Int×Value)} {ents:List MapEntry} (h:EntsRelI kd ρ es ents) (k:Int):∀i:Nat,
  (findI k es=none∧Instr.findNow (.int kd) (.int kd k) ents i=some none)∨
  (∃v v' j,findI k es=some v∧Instr.findNow (.int kd) (.int kd k) ents i=some (some (i+j,v'))∧VRel ρ v v'∧(∃en,ents[j]?=some en∧en.key=.int kd k)):=by
 induction h with
 | nil=>intro i;exact .inl ⟨rfl,rfl⟩
 | cons h1 h2 _ ih=>
  rename_i k0 v0 en es ents _
  intro i
  by_cases hk:k=k0
  ·subst hk
   refine .inr ⟨v0,en.val,0,by simp [findI],?_,h2,en,rfl,h1⟩
   have hb:(k==k)=true:=beq_self_eq_true k
   simp [Instr.findNow,h1,Instr.sameNow,hb]
  ·have hb:(k==k0)=false:=by
    exact beq_false_of_ne hk
   rcases ih (i+1) with ⟨e1,e2⟩ | ⟨v,v',j,e1,e2,e3,e4⟩
   ·refine .inl ⟨by simp [findI,hk,e1],?_⟩
    simp [Instr.findNow,h1,Instr.sameNow,hb,e2]
   ·refine .inr ⟨v,v',j+1,by simp [findI,hk,e1],?_,e3,?_⟩
    ·simp [Instr.findNow,h1,Instr.sameNow,hb,e2];omega
    ·simpa using e4

section
variable {P : Program} {w : World} {ρ : RMap} {h : Heap}

theorem isString_some {t:TypeId} (h:isString P t=true):P.underlying t=some .string:=by
 unfold isString at h
 split at h
 ·assumption
 ·cases h

theorem run_checkKey (b:Bool) {kt:TypeId} (hk:P.underlying kt=some .string) (k:ByteArray):(Instr.checkKey b 10000 kt (.string k)).run P w=.ok () w:=by
 rw [show (10000:Nat)=9999+1 from rfl,Instr.checkKey]
 simp [run_underlying hk]

theorem run_findKey {kt:TypeId} (hk:P.underlying kt=some .string) (k:ByteArray) (ents:List MapEntry) {r:Option (Nat×Value)} (hr:Instr.findNow .string (.string k) ents 0=some r):
  (Instr.findKey kt (.string k) ents).run P w=.ok r w:=by
 simp [Instr.findKey,run_underlying hk,hr]

theorem run_checkKeyI (b:Bool) {kt:TypeId} {kd:IntKind} (hk:P.underlying kt=some (.int kd)) (k:Int):(Instr.checkKey b 10000 kt (.int kd k)).run P w=.ok () w:=by
 rw [show (10000:Nat)=9999+1 from rfl,Instr.checkKey]
 simp [run_underlying hk]

theorem run_findKeyI {kt:TypeId} {kd:IntKind} (hk:P.underlying kt=some (.int kd)) (k:Int) (ents:List MapEntry) {r:Option (Nat×Value)} (hr:Instr.findNow (.int kd) (.int kd k) ents 0=some r):
  (Instr.findKey kt (.int kd k) ents).run P w=.ok r w:=by
 simp [Instr.findKey,run_underlying hk,hr]

theorem HRel.ents (H:HRel P ρ h w) {i:Nat} {r:RI} {es:List (ByteArray×Value)} (hi:ρ i=some r) (he:h[i]?=some (.smap es)):
  ∃ents clock,w.heap[r.blk]?=some (.map ents clock)∧EntsRel ρ es ents.toList:=by
 obtain ⟨o,ho,hr⟩:=H.obj i r hi
 rw [he] at ho
 cases ho
 obtain ⟨ents,clock,h1,h2,h3⟩:=hr
 exact ⟨ents,clock,h1,EntsRel.of (by simpa using h2) (by simpa using h3)⟩

theorem HRel.entsI (H:HRel P ρ h w) {i:Nat} {r:RI} {kd:IntKind} {es:List (Int×Value)} (hi:ρ i=some r) (he:h[i]?=some (.imap kd es)):
  ∃ents clock,w.heap[r.blk]?=some (.map ents clock)∧EntsRelI kd ρ es ents.toList:=by
 obtain ⟨o,ho,hr⟩:=H.obj i r hi
 rw [he] at ho
 cases ho
 obtain ⟨ents,clock,h1,h2,h3⟩:=hr
 exact ⟨ents,clock,h1,EntsRelI.of (by simpa using h2) (by simpa using h3)⟩

theorem run_getObj_map {b:Nat} {ents:Array MapEntry} {clock:Nat} (hb:w.heap[b]?=some (.map ents clock)):(getObj b).run P w=.ok (.map ents clock) w:=by
 simp [getObj,Sem.run,hb]

theorem zero1_some {t:TypeId} {z:Value} (hz:zero1 P t=some z):(∀w,(zeroValue t).run P w=.ok z w)∧cvOk z=true:=by
 unfold zero1 at hz
 split at hz
 ·rename_i i hi
  split at hz
  ·rename_i z' hz'
   split at hz
   ·rename_i hc
    simp at hz;subst hz
    simp [cellOk] at hc
    exact ⟨fun w=>run_zeroValue' w hi hz',hc.1⟩
   ·cases hz
  ·cases hz
 ·cases hz

theorem run_iLookup (H:HRel P ρ h w) {t kt et:TypeId} {ok:Bool} {z m m' k k' v:Value} (ht:P.underlying t=some (.map kt et)) (hk:isString P kt=true) (hz:zero1 P et=some z)
  (hi:iLookup ok z h m k=some v) (hm:VRel ρ m m') (hkk:VRel ρ k k'):∃v',(Instr.lookup t m' k' ok).run P w=.ok v' w∧VRel ρ v v':=by
 unfold iLookup at hi
 split at hi
 ·rename_i i key
  rw [hkk.string_inv]
  cases hm with
  | map hr=>
   rename_i r
   split at hi
   ·rename_i es he
    obtain ⟨ents,clock,hb,hents⟩:=H.ents hr he
    obtain ⟨hz1,hz2⟩:=zero1_some hz
    have hks:=isString_some hk
    rcases find_rel hents key 0 with ⟨e1,e2⟩ | ⟨u,u',j,e1,e2,e3,_⟩
    ·rw [e1] at hi
     simp at hi
     have hrun:(Instr.lookup t (.map (some r.blk)) (.string key) ok).run P w=.ok (if ok then .tuple #[z,.bool false] else z) w:=by
      simp [Instr.lookup,run_underlying ht,run_getObj_map hb,run_checkKey _ hks,run_findKey hks key _ e2,hz1]
     refine ⟨_,hrun,?_⟩
     subst hi
     cases ok
     ·exact cvOk.rel hz2
     ·exact VRel.tupleL (.cons (cvOk.rel hz2) (.cons (.bool _) .nil))
    ·rw [e1] at hi
     simp at hi
     have hrun:(Instr.lookup t (.map (some r.blk)) (.string key) ok).run P w=.ok (if ok then .tuple #[u',.bool true] else u') w:=by
      simp [Instr.lookup,run_underlying ht,run_getObj_map hb,run_checkKey _ hks,run_findKey hks key _ e2]
     refine ⟨_,hrun,?_⟩
     subst hi
     cases ok
     ·exact e3
     ·exact VRel.tupleL (.cons e3 (.cons (.bool _) .nil))
   ·cases hi
 ·cases hi

theorem isIntK_some {t:TypeId} {kd:IntKind} (h:isIntK P t=some kd):P.underlying t=some (.int kd):=by
 unfold isIntK at h
 split at h
 ·simp at h;subst h;assumption
 ·cases h

theorem run_iLookupI (H:HRel P ρ h w) {t kt et:TypeId} {kd:IntKind} {ok:Bool} {z m m' k k' v:Value} (ht:P.underlying t=some (.map kt et)) (hk:isIntK P kt=some kd) (hz:zero1 P et=some z)
  (hi:iLookupI kd ok z h m k=some v) (hm:VRel ρ m m') (hkk:VRel ρ k k'):∃v',(Instr.lookup t m' k' ok).run P w=.ok v' w∧VRel ρ v v':=by
 unfold iLookupI at hi
 split at hi
 ·rename_i i kd' key
  rw [hkk.int_inv]
  cases hm with
  | map hr=>
   rename_i r
   split at hi
   ·rename_i kd'' es he
    split at hi
    ·rename_i hkd
     obtain ⟨rfl,rfl⟩:=hkd
     obtain ⟨ents,clock,hb,hents⟩:=H.entsI hr he
     obtain ⟨hz1,hz2⟩:=zero1_some hz
     have hks:=isIntK_some hk
     rcases find_relI hents key 0 with ⟨e1,e2⟩ | ⟨u,u',j,e1,e2,e3,_⟩
     ·rw [e1] at hi
      simp at hi
      have hrun:(Instr.lookup t (.map (some r.blk)) (.int kd'' key) ok).run P w=.ok (if ok then .tuple #[z,.bool false] else z) w:=by
       simp [Instr.lookup,run_underlying ht,run_getObj_map hb,run_checkKeyI _ hks,run_findKeyI hks key _ e2,hz1]
      refine ⟨_,hrun,?_⟩
      subst hi
      cases ok
      ·exact cvOk.rel hz2
      ·exact VRel.tupleL (.cons (cvOk.rel hz2) (.cons (.bool _) .nil))
     ·rw [e1] at hi
      simp at hi
      have hrun:(Instr.lookup t (.map (some r.blk)) (.int kd'' key) ok).run P w=.ok (if ok then .tuple #[u',.bool true] else u') w:=by
       simp [Instr.lookup,run_underlying ht,run_getObj_map hb,run_checkKeyI _ hks,run_findKeyI hks key _ e2]
      refine ⟨_,hrun,?_⟩
      subst hi
      cases ok
      ·exact e3
      ·exact VRel.tupleL (.cons e3 (.cons (.bool _) .nil))
    ·cases hi
   ·cases hi
 ·cases hi

theorem load_sound {o:Oper} {lo:LOp} {g g':Operand→Value} (hc:compL P o.op=some lo) (hok:o.op.operands.all opdOk=true) (H:HRel P ρ h w)
  (hg:∀x,opdOk x=true→VRel ρ (g x) (g' x)) {v:Value} (hi:iload lo g h=some v):∃v',(execOp g' o).run P w=.ok (.value v') w∧VRel ρ v v':=by
 cases ho:o.op with
 | load t a=>
  rw [ho] at hc hok
  simp [Op.operands] at hok
  simp only [compL] at hc
  split at hc
  ·rename_i d ht
   split at hc
   ·rename_i hk
    simp at hc;subst hc
    simp only [Bool.and_eq_true] at hk
    obtain ⟨v',h1,h2⟩:=run_iLoad H ht hk.1 hi (hg a hok)
    exact ⟨v',by simp [execOp,ho,h1],h2⟩
   ·cases hc
  ·cases hc
 | entry it=>
  rw [ho] at hc hok
  simp [Op.operands] at hok
  simp [compL] at hc;subst hc
  obtain ⟨v',h1,h2⟩:=run_iEntry H hi (hg it hok)
  exact ⟨v',by simp [execOp,ho,h1],h2⟩
 | convert s d x=>
  rw [ho] at hc hok
  simp [Op.operands] at hok
  simp only [compL] at hc
  split at hc
  ·rename_i e hs hd
   split at hc
   ·rename_i he
    simp at hc;subst hc
    have hx:=hg x hok
    obtain ⟨h1,h2⟩:=run_iB2s H hi hx
    refine ⟨v,?_,h2⟩
    have:(convert s d (g' x)).run P w=.ok v w:=by
     simp only [iload,iB2s,Option.bind_eq_some_iff] at hi
     obtain ⟨cs,hcs,_⟩:=hi
     rcases sliceCells_rel H hcs hx with ⟨e1,_⟩ | ⟨b,o',n,c',e1,_⟩
     ·rw [e1] at h1⊢;rw [run_convert_bytes_string w s d e _ _ _ hs he hd];exact h1
     ·rw [e1] at h1⊢;rw [run_convert_bytes_string w s d e _ _ _ hs he hd];exact h1
    simp [execOp,ho,this]
   ·cases hc
  ·cases hc
 | lookup t m k ok=>
  rw [ho] at hc hok
  simp [Op.operands] at hok
  simp only [compL] at hc
  split at hc
  ·rename_i g hgk
   split at hc
   ·rename_i kt et ht
    simp only [Option.map_eq_some_iff] at hc
    obtain ⟨z,hz,rfl⟩:=hc
    obtain ⟨v',h1,h2⟩:=run_iLookupG H hgk ht hz hi (hg m hok.1) (hg k hok.2)
    exact ⟨v',by simp [execOp,ho,h1],h2⟩
   ·cases hc
  split at hc
  ·rename_i kt et ht
   split at hc
   ·rename_i hk
    simp only [Option.map_eq_some_iff] at hc
    obtain ⟨z,hz,rfl⟩:=hc
    obtain ⟨v',h1,h2⟩:=run_iLookup H ht hk hz hi (hg m hok.1) (hg k hok.2)
    exact ⟨v',by simp [execOp,ho,h1],h2⟩
   ·simp only [Option.bind_eq_some_iff,Option.map_eq_some_iff] at hc
    obtain ⟨kd,hkd,z,hz,rfl⟩:=hc
    obtain ⟨v',h1,h2⟩:=run_iLookupI H ht hkd hz hi (hg m hok.1) (hg k hok.2)
    exact ⟨v',by simp [execOp,ho,h1],h2⟩
  ·cases hc
 | _=>rw [ho] at hc;simp [compL] at hc

end
end Go.Sim


namespace Go.Sim

theorem setAt_get {xs:List Value} {o:Nat} {vs:List Value} (h:o+vs.length≤xs.length) (j:Nat):
  (setAt xs o vs)[j]?=if j<o then xs[j]? else if j<o+vs.length then vs[j-o]? else xs[j]?:=by
 have hl:(xs.take o).length=o:=by simp;omega
 unfold setAt
 by_cases h1:j<o
 ·rw [if_pos h1,List.append_assoc,List.getElem?_append_left (by omega),List.getElem?_take,if_pos h1]
 ·rw [if_neg h1]
  by_cases h2:j<o+vs.length
  ·rw [if_pos h2,List.append_assoc,List.getElem?_append_right (by omega),hl,List.getElem?_append_left (by omega)]
  ·rw [if_neg h2,List.getElem?_append_right (by simp;omega),List.getElem?_drop]
   congr 1
   simp
   omega

theorem setAt_length {xs:List Value} {o:Nat} {vs:List Value} (h:o+vs.length≤xs.length):(setAt xs o vs).length=xs.length:=by
 unfold setAt
 simp
 omega

theorem CellsRel.le {ρ:RMap} {c:Array Value} {xs:List Value} (h:CellsRel ρ c 0 xs):xs.length≤c.size:=by
 rcases Nat.eq_zero_or_pos xs.length with hz | hz
 ·omega
 ·have hx:xs[xs.length-1]?=some (xs[xs.length-1]'(by omega)):=List.getElem?_eq_getElem _
  obtain ⟨_,y,hy,_⟩:=h _ _ hx
  have:=(Array.getElem?_eq_some_iff.1 hy).1
  omega

theorem CellsRel.put {ρ:RMap} {c:Array Value} {xs:List Value} {o:Nat} {vs vs':List Value} (h:CellsRel ρ c 0 xs) (hv:VsRel ρ vs vs') (h1:∀x∈vs,isCell x=true) (hl:o+vs.length≤xs.length):
  CellsRel ρ (setAt c.toList o vs').toArray 0 (setAt xs o vs):=by
 intro j x hj
 have hcl:=h.le
 have hlen:=hv.length
 rw [setAt_get hl] at hj
 have e:(setAt c.toList o vs').toArray[0+j]?=if j<o then c.toList[j]? else if j<o+vs'.length then vs'[j-o]? else c.toList[j]?:=by
  rw [Nat.zero_add,List.getElem?_toArray,setAt_get (by simp;omega)]
 rw [e]
 by_cases h1':j<o
 ·rw [if_pos h1'] at hj⊢
  obtain ⟨q1,y,q2,q3⟩:=h j x hj
  exact ⟨q1,y,by simpa using q2,q3⟩
 ·rw [if_neg h1'] at hj⊢
  by_cases h2:j<o+vs.length
  ·rw [if_pos h2] at hj
   rw [if_pos (by omega)]
   obtain ⟨y,q2,q3⟩:=hv.get hj
   exact ⟨h1 x (List.mem_of_getElem? hj),y,q2,q3⟩
  ·rw [if_neg h2] at hj
   rw [if_neg (by omega)]
   obtain ⟨q1,y,q2,q3⟩:=h j x hj
   exact ⟨q1,y,by simpa using q2,q3⟩

theorem flatten_get (z:List Value) (n:Nat):∀(j:Nat),j<n*z.length→(List.replicate n z).flatten[j]?=z[j%z.length]?:=by
 induction n with
 | zero=>intro j hj;simp at hj
 | succ n ih=>
  intro j hj
  rw [List.replicate_succ,List.flatten_cons]
  by_cases h:j<z.length
  ·rw [List.getElem?_append_left h,Nat.mod_eq_of_lt h]
  ·have e:j%z.length=(j-z.length)%z.length:=by rw [Nat.mod_eq_sub_mod (by omega)]
   rw [List.getElem?_append_right (by omega),ih _ (by rw [Nat.add_mul] at hj;omega),e]

theorem zrep_length (z:List Value) (n:Nat):(zrep z n).length=n*z.length:=by
 induction n with
 | zero=>simp [zrep]
 | succ n ih=>simp only [zrep,List.replicate_succ,List.flatten_cons,List.length_append] at ih⊢;rw [ih,Nat.add_mul];omega

theorem zrep_mem {z:List Value} {n:Nat} {p:Value→Prop} (h:∀x∈z,p x):∀x∈zrep z n,p x:=by
 intro x hx
 simp only [zrep,List.mem_flatten,List.mem_replicate] at hx
 obtain ⟨l,⟨_,rfl⟩,hm⟩:=hx
 exact h x hm

theorem made_get (z:Array Value) (m j:Nat) (hj:j<m) (hz:0<z.size):(madeCells z m)[j]?=z[j%z.size]?:=by
 have hlt:j%z.size<z.size:=Nat.mod_lt _ hz
 simp [madeCells,hj,hlt]

theorem made_zrep (z:Value) (n k:Nat) (hk:(vcells z).length=k):((Array.range (n*k)).map (z.cells[·%z.cells.size]!)).toList=zrep (vcells z) n:=by
 have hs:z.cells.size=k:=by rw [←hk];simp [vcells]
 apply List.ext_getElem?
 intro j
 by_cases hj:j<n*k
 ·have hz:0<z.cells.size:=by
   rcases Nat.eq_zero_or_pos k with h | h
   ·subst h;simp at hj
   ·omega
  have:=made_get z.cells (n*k) j hj hz
  simp only [madeCells] at this
  rw [Array.getElem?_toList,this,zrep,flatten_get _ _ _ (by rw [hk];exact hj)]
  simp [vcells]
 ·rw [List.getElem?_eq_none (by simp;omega),List.getElem?_eq_none (by rw [zrep_length,hk];omega)]

section
variable {P : Program} {w : World} {ρ : RMap} {h : Heap}

def Done (P:Program) (ρ:RMap) (h:Heap) (w:World) (v:Value) (h':Heap) (s:Result Next):Prop:=
 ∃nx w' ρ' v',s=.ok nx w'∧(nx=.value v'∨(nx=.skip∧v'=undef))∧VRel ρ' v v'∧HRel P ρ' h' w'∧Tr ρ h w ρ' h' w'

theorem HRel.arr (H:HRel P ρ h w) {i:Nat} {r:RI} {e:TypeId} {xs:List Value} (hi:ρ i=some r) (hx:h[i]?=some (.arr e xs)):
  r.elem=e∧r.sh=0∧∃c,w.heap[r.blk]?=some (.cells c e (0,0))∧c.size=r.size∧CellsRel ρ c 0 xs:=by
 obtain ⟨o,ho,hr⟩:=H.obj i r hi
 rw [hx] at ho
 cases ho
 exact hr

theorem run_iStore (H:HRel P ρ h w) {t:TypeId} {a a' v v':Value} {h':Heap} (hk:infoOk P t=true) (hi:iStore (P.cellsOf t) h a v=some h') (ha:VRel ρ a a') (hv:VRel ρ v v'):
  ∃w',(Instr.storeAt t a' v').run P w=.ok () w'∧HRel P ρ h' w'∧Tr ρ h w ρ h' w':=by
 unfold iStore at hi
 split at hi
 ·rename_i i o
  obtain ⟨r,hr,rfl⟩:=ha.ptr_inv
  split at hi
  ·rename_i e xs hx
   split at hi
   ·rename_i hc
    obtain ⟨hnt,hl,hle⟩:=hc
    simp at hi;subst hi
    obtain ⟨h1,h2,c,h3,h4,h5⟩:=H.arr hr hx
    have hvc:=hv.cells hnt
    have hl':(vcells v').length=P.cellsOf t:=by rw [←hvc.length];exact hl
    have hst:=run_storeCells_at P r.blk o e (vcells v') 0 c w h3 (by have:=h5.le;simp;omega) (hvc.oneCell (hv.cellsOne hnt))
    have heq:(c.toList.take (o+0)++vcells v'++c.toList.drop (o+0+(vcells v').length)).toArray=(setAt c.toList o (vcells v')).toArray:=by simp [setAt]
    rw [heq] at hst
    have hmut:isMut h i:=.inl ⟨e,xs,hx⟩
    obtain ⟨q1,q2⟩:=H.set (o:=.arr e (setAt xs o (vcells v))) hr hmut (SetBlock.row h3 (setAt c.toList o (vcells v')).toArray)
     ⟨h1,h2,_,(SetBlock.row h3 _).here,by simp [setAt_length (show o+(vcells v').length≤c.toList.length by have:=h5.le;simp;omega),h4],h5.put hvc (hv.cellsOne hnt) (by omega)⟩
    refine ⟨_,?_,q1,q2⟩
    have hsz:v'.cells.size=P.cellsOf t:=by rw [←hl'];simp [vcells]
    have hst':(storeCells ⟨r.blk,r.sh+o,none⟩ v'.cells.toList).run P w=.ok () (w.setRow r.blk (setAt c.toList o (vcells v')).toArray):=by
     rw [h2,Nat.zero_add]
     exact hst
    simp [Instr.storeAt,Instr.sureAddr,storeVar,run_sizeOf' w hk,hsz,hst']
   ·cases hi
  ·cases hi
 ·cases hi

theorem newArr (H:HRel P ρ h w) {w':World} {e:TypeId} {c:Array Value} {xs:List Value} (nb:NewBlock w (.cells c e) w') (hc:CellsRel ρ c 0 xs):
  HRel P (ρ.add h.length ⟨w.heap.size,0,e,P.cellsOf e,c.size⟩) (h++[.arr e xs]) w'∧Tr ρ h w (ρ.add h.length ⟨w.heap.size,0,e,P.cellsOf e,c.size⟩) (h++[.arr e xs]) w':=
 H.new nb rfl rfl rfl (fun _=>.inl rfl) ⟨rfl,rfl,c,nb.new,rfl,hc.mono (RMap.le_add H.none)⟩

theorem add_self (ρ:RMap) (i:Nat) (r:RI):ρ.add i r i=some r:=by simp [RMap.add]

theorem newPtr_rel (ρ:RMap) (h:Heap) (r:RI) (hs:r.sh=0):VRel (ρ.add h.length r) (newPtr h) (.pointer (some ⟨r.blk,0,none⟩)):=by
 have:=VRel.ptr (ρ:=ρ.add h.length r) (i:=h.length) (o:=0) (add_self _ _ _)
 rw [hs] at this
 exact this

theorem sl_rel (ρ:RMap) (i:Nat) (r:RI) (hs:r.sh=0) {n c':Nat} (hn:n≤c') (hc:c'≤maxLen) (hb:c'*r.esz≤r.size):VRel (ρ.add i r) (sl r.elem i 0 n) (.slice (some ⟨r.blk,0,none⟩) n c'):=
 VRel.slice (add_self _ _ _) (.inl (by omega)) hn hc (by omega)

theorem run_iBox (H:HRel P ρ h w) {e:TypeId} {x x' v:Value} {h':Heap} (hi:iBox e h x=some (v,h')) (hx:VRel ρ x x'):
  ∃w' ρ' v',(Instr.box e x').run P w=.ok v' w'∧VRel ρ' v v'∧HRel P ρ' h' w'∧Tr ρ h w ρ' h' w':=by
 unfold iBox at hi
 split at hi
 ·rename_i hnt
  simp at hi
  obtain ⟨rfl,rfl⟩:=hi
  have hc:CellsRel ρ x'.cells 0 (vcells x):=CellsRel.of (hx.cells hnt) (hx.cellsOne hnt)
  obtain ⟨q1,q2⟩:=newArr H (NewBlock.alloc w (.cells x'.cells e)) hc
  exact ⟨_,_,_,by simp [Instr.box,newVar,newRow],newPtr_rel _ _ _ rfl,q1,q2⟩
 ·cases hi

theorem run_iAlloc (H:HRel P ρ h w) {e:TypeId} {zs:List Value} (hz:zeroOf P e=some zs):
  ∃w' ρ' v',(Instr.alloc e true (.tuple #[])).run P w=.ok v' w'∧VRel ρ' (newPtr h) v'∧HRel P ρ' (h++[.arr e zs]) w'∧Tr ρ h w ρ' (h++[.arr e zs]) w':=by
 obtain ⟨i,z,hi,hzz,rfl,hnt,hcl,hlen⟩:=zeroOf_some hz
 have hc:CellsRel ρ z.cells 0 (vcells z):=CellsRel.of (VsRel.closed fun x hx=>(hcl x hx).1) (fun x hx=>(hcl x hx).2)
 obtain ⟨q1,q2⟩:=newArr H (NewBlock.alloc w (.cells z.cells e)) hc
 exact ⟨_,_,_,by simp [Instr.alloc,run_zeroValue' w hi hzz,newVar,newRow],newPtr_rel _ _ _ rfl,q1,q2⟩

theorem cellsOf_info {t:TypeId} {i:TypeInfo} (hi:P.info? t=some i):P.cellsOf t=i.size:=by simp [Program.cellsOf,hi]
theorem bytesOf_info {t:TypeId} {i:TypeInfo} (hi:P.info? t=some i):P.bytesOf t=i.bytes:=by simp [Program.bytesOf,hi]

theorem run_iMkSl (H:HRel P ρ h w) {t e:TypeId} {n:Nat} {zs:List Value} {ps:List (Nat×Nat×Value)} {qs:Array (Nat×Value)} {v:Value} {h':Heap} (ht:P.underlying t=some (.slice e)) (hz:zeroOf P e=some zs)
  (hn:n*P.cellsOf e≤16777216) (hne:P.cellsOf e≠0) (hp:PartsRel ρ (fun i=>some (i*P.cellsOf e,P.cellsOf e)) ps qs.toList) (hi:iMkSl e n zs h ps=some (v,h')):
  ∃w' ρ' v',(Instr.buildSlice t n qs).run P w=.ok v' w'∧VRel ρ' v v'∧HRel P ρ' h' w'∧Tr ρ h w ρ' h' w':=by
 obtain ⟨i,z,hii,hzz,rfl,hnt,hcl,hlen⟩:=zeroOf_some hz
 have hk:infoOk P e=true:=by simp [infoOk,hii]
 have hce:=cellsOf_info hii
 simp only [iMkSl,Option.map_eq_some_iff,Prod.mk.injEq] at hi
 obtain ⟨cs,hf,rfl,rfl⟩:=hi
 obtain ⟨zero,hzero,hzl⟩:∃zero:Array Value,(if n*P.cellsOf e=0 then (Pure.pure #[]:Sem (Array Value)) else do pure (←zeroValue e).cells).run P w=.ok zero w∧
   ((Array.range (n*P.cellsOf e)).map (zero[·%zero.size]!)).toList=zrep (vcells z) n:=by
  by_cases h0:n*P.cellsOf e=0
  ·refine ⟨#[],by simp [h0],?_⟩
   have hn0:n=0:=by
    rcases Nat.mul_eq_zero.1 h0 with h | h
    ·exact h
    ·exact absurd h hne
   subst hn0
   simp [zrep,Array.range_zero']
  ·exact ⟨z.cells,by simp [h0,run_zeroValue' w hii hzz],by rw [hce];exact made_zrep z n i.size hlen⟩
 have hclz:VsRel ρ (zrep (vcells z) n) (zrep (vcells z) n):=VsRel.closed (zrep_mem fun x hx=>(hcl x hx).1)
 obtain ⟨cs',hfill,hr,h1,hl2⟩:=fill_rel (ys:=(Array.range (n*P.cellsOf e)).map (zero[·%zero.size]!)) hp hf (by rw [hzl];exact hclz) (zrep_mem fun x hx=>(hcl x hx).2)
 obtain ⟨q1,q2⟩:=newArr H (NewBlock.alloc w (.cells cs' e)) (CellsRel.of hr h1)
 have hsz:cs'.size=n*P.cellsOf e:=by
  have:=hr.length
  rw [hl2,zrep_length,hlen,←hce] at this
  simpa using this.symm
 have hnm:n≤maxLen:=by
  have h1:1≤P.cellsOf e:=by omega
  have:=Nat.mul_le_mul_left n h1
  unfold maxLen
  omega
 refine ⟨_,_,.slice (some ⟨w.heap.size,0,none⟩) n n,?_,sl_rel ρ h.length ⟨w.heap.size,0,e,P.cellsOf e,cs'.size⟩ rfl (Nat.le_refl _) hnm (by simp [hsz]),q1,q2⟩
 unfold Instr.buildSlice
 simp only [Sem.run_bind,run_underlying ht,Result.andThen_ok,run_sizeOf' w hk]
 have h24:¬(n*P.cellsOf e>2^24):=by rw [show (2^24:Nat)=16777216 from rfl];omega
 rw [if_neg h24]
 by_cases h0:n*P.cellsOf e=0
 ·rw [if_pos h0] at hzero⊢
  simp only [Sem.run_pure,Result.ok.injEq,and_true] at hzero
  subst hzero
  simp only [Sem.run_bind,Sem.run_pure,Result.andThen_ok,hfill]
  simp [newRow]
 ·rw [if_neg h0] at hzero⊢
  simp only [Sem.run_bind,Sem.run_pure] at hzero⊢
  rw [run_zeroValue' w hii hzz] at hzero⊢
  simp only [Result.andThen_ok,Result.ok.injEq,and_true] at hzero⊢
  subst hzero
  rw [hfill]
  simp [newRow]

end
end Go.Sim


namespace Go.Sim

section
variable {P : Program} {w : World} {ρ : RMap} {h : Heap}

theorem run_iMake (H:HRel P ρ h w) {t e:TypeId} {zs:List Value} {l c l' c' v:Value} {h':Heap} (ht:P.underlying t=some (.slice e)) (hz:zeroOf P e=some zs)
  (hi:iMake e (P.bytesOf e) zs h l c=some (v,h')) (hl:VRel ρ l l') (hc:VRel ρ c c'):
  ∃w' ρ' v',(Instr.makeSlice t l' c').run P w=.ok v' w'∧VRel ρ' v v'∧HRel P ρ' h' w'∧Tr ρ h w ρ' h' w':=by
 obtain ⟨i,z,hii,hzz,rfl,hnt,hcl,hlen⟩:=zeroOf_some hz
 unfold iMake at hi
 split at hi
 ·rename_i k1 l k2 c
  rw [hl.int_inv,hc.int_inv]
  split at hi
  ·rename_i hb
   obtain ⟨h0,h1,h2,h3⟩:=hb
   simp at hi
   obtain ⟨rfl,rfl⟩:=hi
   rw [bytesOf_info hii] at h2
   have hrun:=run_make (P:=P) w t e i z ht hii hzz k1 k2 l c h0 h1 h2 h3
   have hcr:CellsRel ρ (madeCells z.cells (c.toNat*i.size)) 0 (zrep (vcells z) l.toNat):=by
    intro j x hj
    have hjl:j<l.toNat*i.size:=by
     have:=(List.getElem?_eq_some_iff.1 hj).1
     rwa [zrep_length,hlen] at this
    have hzs:z.cells.size=i.size:=by rw [←hlen];simp [vcells]
    have hpos:0<z.cells.size:=by
     rcases Nat.eq_zero_or_pos i.size with q | q
     ·rw [q] at hjl;simp at hjl
     ·omega
    have hmul:l.toNat*i.size≤c.toNat*i.size:=Nat.mul_le_mul_right _ (by omega)
    rw [zrep,flatten_get _ _ _ (by rw [hlen];exact hjl)] at hj
    have hx:x∈vcells z:=List.mem_of_getElem? hj
    refine ⟨(hcl x hx).2,x,?_,cvOk.rel (hcl x hx).1⟩
    rw [Nat.zero_add,made_get _ _ _ (by omega) hpos]
    simpa [vcells] using hj
   obtain ⟨q1,q2⟩:=newArr H (NewBlock.alloc w (.cells (madeCells z.cells (c.toNat*i.size)) e)) hcr
   refine ⟨_,_,_,hrun,?_,q1,q2⟩
   exact sl_rel ρ h.length ⟨w.heap.size,0,e,P.cellsOf e,(madeCells z.cells (c.toNat*i.size)).size⟩ rfl (by omega) (by unfold maxLen;omega) (by simp [size_madeCells,cellsOf_info hii])
  ·cases hi
 ·cases hi

theorem run_append_zero {t e:TypeId} {i:TypeInfo} (ht:P.underlying t=some (.slice e)) (hi:P.info? e=some i) (type:TypeId) (b:Option Addr) (n c:Nat) (x:Value) (hn:n≤c)
  (hx:x=.slice none 0 0∨∃a c2,x=.slice (some a) 0 c2):(Builtin.append_ #[t,t] type #[.slice b n c,x]).run P w=.ok (.slice b n c) w:=by
 rcases hx with rfl | ⟨a,c2,rfl⟩
 ·cases b <;> simp [Builtin.append_,run_underlying ht,sizeOf,typeInfo,hi,Builtin.lenOf,hn,Builtin.firstCells,storeCells]
 ·cases b <;> simp [Builtin.append_,run_underlying ht,sizeOf,typeInfo,hi,Builtin.lenOf,hn,Builtin.firstCells,loadCells,loadCellsFrom,storeCells]

theorem cells_append {ρ:RMap} {c:Array Value} {xs ys zs:List Value} (hx:∀(j:Nat) (x:Value),xs[j]?=some x→isCell x=true∧∃y,c[j]?=some y∧VRel ρ x y) (hz:VsRel ρ zs ys) (h1:∀x∈zs,isCell x=true)
  (hc:∀(j:Nat) (y:Value),ys[j]?=some y→c[xs.length+j]?=some y):CellsRel ρ c 0 (xs++zs):=by
 intro j x hj
 by_cases hlt:j<xs.length
 ·rw [List.getElem?_append_left hlt] at hj
  simpa using hx j x hj
 ·rw [List.getElem?_append_right (by omega)] at hj
  obtain ⟨y,hy,hr⟩:=hz.get hj
  refine ⟨h1 x (List.mem_of_getElem? hj),y,?_,hr⟩
  have:=hc _ y hy
  rw [←this]
  congr 1
  omega

theorem run_iApp (H:HRel P ρ h w) {t e:TypeId} {zs:List Value} {type:TypeId} {s x s' x' v:Value} {h':Heap} (ht:P.underlying t=some (.slice e)) (hz:zeroOf P e=some zs)
  (hi:iApp e (P.cellsOf e) (P.bytesOf e) h s x=some (v,h')) (hs:VRel ρ s s') (hx:VRel ρ x x'):
  ∃w' ρ' v',(Builtin.append_ #[t,t] type #[s',x']).run P w=.ok v' w'∧VRel ρ' v v'∧HRel P ρ' h' w'∧Tr ρ h w ρ' h' w':=by
 obtain ⟨i,z,hii,hzz,rfl,hnt,hcl,hlen⟩:=zeroOf_some hz
 have hce:=cellsOf_info hii
 have hbe:=bytesOf_info hii
 have hzs:z.cells.size=i.size:=by rw [←hlen];simp [vcells]
 unfold iApp at hi
 split at hi
 ·rename_i news m hn hm
  have hxx:=sliceCells_rel H hn hx
  have hzero:m=0→(x'=.slice none 0 0∨∃a c2,x'=.slice (some a) 0 c2):=by
   intro hm0
   rcases hxx with ⟨e1,_⟩ | ⟨b,o,n2,c2,e1,e2,_⟩
   ·exact .inl e1
   ·rw [hm] at e2;cases e2;subst hm0;exact .inr ⟨_,_,e1⟩
  have hsome:0<m→∃b o c2,x'=.slice (some ⟨b,o,none⟩) m c2∧news.length=m*i.size∧(∀v∈news,isCell v=true)∧
    ∃ys,VsRel ρ news ys∧ys.length=m*i.size∧∀j v,ys[j]?=some v→w.cell? ((⟨b,o,none⟩:Addr).add j)=some v:=by
   intro hm0
   rcases hxx with ⟨e1,e2⟩ | ⟨b,o,n2,c2,e1,e2,e3,e4,ys,e5,e6⟩
   ·subst e1
    cases hx
    ·simp [lenOfSl] at hm
     omega
    ·simp [lenOfSl] at hm
   ·rw [hm] at e2;cases e2
    refine ⟨b,o,c2,e1,by rw [e3,hce],e4,ys,e5,by rw [←e5.length,e3,hce],?_⟩
    intro j v hj
    rw [Addr.add_lit]
    exact e6 j v hj
  split at hi
  ·cases hs
   split at hi
   ·rename_i hm0
    simp at hi
    obtain ⟨rfl,rfl⟩:=hi
    exact ⟨w,ρ,_,run_append_zero ht hii type none 0 0 x' (Nat.le_refl _) (hzero hm0),.nilSlice,H,Tr.refl H⟩
   ·rename_i hm0
    split at hi
    ·rename_i hb
     obtain ⟨hb1,hb2⟩:=hb
     simp at hi
     obtain ⟨rfl,rfl⟩:=hi
     obtain ⟨b,o,c2,rfl,f1,f2,ys,f3,f4,f5⟩:=hsome (by omega)
     have hrun:=run_append_nil (P:=P) w t type e i z ht hii hzz ⟨b,o,none⟩ m c2 ys f4 f5 (by omega) (by unfold maxLen at hb2;omega) (by rw [←hbe];omega)
     have hge:=grownCap_ge w m 0 e
     have hcr:CellsRel ρ (ys.toArray++Builtin.zeroCells z.cells (grownCap w m 0 e-m)) 0 news:=by
      have:=cells_append (ρ:=ρ) (c:=ys.toArray++Builtin.zeroCells z.cells (grownCap w m 0 e-m)) (xs:=[]) (ys:=ys) (zs:=news) (by simp) f3 f2 (by
       intro j y hj
       have hlt:=(List.getElem?_eq_some_iff.1 hj).1
       rw [Array.getElem?_append_left (by simpa using hlt)]
       simpa using hj)
      simpa using this
     obtain ⟨q1,q2⟩:=newArr H (NewBlock.drew w (.cells (ys.toArray++Builtin.zeroCells z.cells (grownCap w m 0 e-m)) e)) hcr
     refine ⟨_,_,_,hrun,?_,q1,q2⟩
     refine sl_rel ρ h.length ⟨w.heap.size,0,e,P.cellsOf e,(ys.toArray++Builtin.zeroCells z.cells (grownCap w m 0 e-m)).size⟩ rfl hge (grownCap_le_maxLen w m 0 e hb2) ?_
     simp only [Array.size_append,List.size_toArray,size_zeroCells,f4,hzs,hce]
     rw [←Nat.add_mul]
     exact Nat.mul_le_mul_right _ (by omega)
    ·cases hi
  ·rename_i ii e' n cc
   split at hi
   ·rename_i e'' xs hxs
    split at hi
    ·rename_i hb
     obtain ⟨rfl,rfl,hb3,hb4,hb5⟩:=hb
     have hs0:=hs
     cases hs with
     | slice hr ho hnc hcm hbd=>
      rename_i o' c' r
      obtain ⟨g1,g2,c,g3,g4,g5⟩:=H.arr hr hxs
      obtain rfl:o'=0:=by
       rcases ho with ho | ⟨_,q,_⟩
       ·omega
       ·omega
      have hes:=H.esz _ _ hr
      split at hi
      ·rename_i hm0
       simp at hi
       obtain ⟨rfl,rfl⟩:=hi
       exact ⟨w,ρ,_,run_append_zero ht hii type _ n c' x' hnc (hzero hm0),hs0,H,Tr.refl H⟩
      ·rename_i hm0
       simp at hi
       obtain ⟨rfl,rfl⟩:=hi
       obtain ⟨b,o,c2,rfl,f1,f2,ys,f3,f4,f5⟩:=hsome (by omega)
       rw [hce] at hb3
       have hesz:r.esz=i.size:=by rw [hes,hce]
       have hmut:isMut h ii:=.inl ⟨_,xs,hxs⟩
       by_cases hroom:n+m≤c'
       ·have hfit:n*i.size+ys.length≤c.size:=by
         rw [f4,g4,←Nat.add_mul]
         have:=Nat.mul_le_mul_right i.size hroom
         rw [hesz] at hbd
         omega
        have hrun:=run_append_room (P:=P) w t type r.elem i ht hii r.blk n c' c g3 ⟨b,o,none⟩ m c2 ys f4 f5 (f3.oneCell f2) hroom hfit
        have hcs:(c.toList.take (n*i.size)++ys++c.toList.drop (n*i.size+ys.length)).toArray=(setAt c.toList (n*i.size) ys).toArray:=rfl
        rw [hcs] at hrun
        have hsz:(setAt c.toList (n*i.size) ys).toArray.size=c.size:=by simp [setAt_length (show n*i.size+ys.length≤c.toList.length by simpa using hfit)]
        have hcr:CellsRel ρ (setAt c.toList (n*i.size) ys).toArray 0 (xs++news):=by
         refine cells_append (ys:=ys) ?_ f3 f2 ?_
         ·intro j x hj
          have hlt:=(List.getElem?_eq_some_iff.1 hj).1
          obtain ⟨k1,y,k2,k3⟩:=g5 j x hj
          refine ⟨k1,y,?_,k3⟩
          rw [List.getElem?_toArray,setAt_get (by simpa using hfit),if_pos (by omega)]
          simpa using k2
         ·intro j y hj
          have hlt:=(List.getElem?_eq_some_iff.1 hj).1
          rw [List.getElem?_toArray,setAt_get (by simpa using hfit),if_neg (by omega),if_pos (by omega)]
          rw [←hj]
          congr 1
          omega
        have sb:=SetBlock.row g3 (setAt c.toList (n*i.size) ys).toArray
        obtain ⟨q1,q2⟩:=H.move (o:=.arr r.elem (xs++news)) hr hmut sb ⟨rfl,g2,_,sb.here,by rw [hsz,g4],hcr.mono (RMap.le_add H.none)⟩
        refine ⟨_,_,_,hrun,?_,q1,q2⟩
        exact sl_rel ρ h.length r g2 hroom hcm (by omega)
       ·obtain ⟨olds,o1,o2,o3,o4⟩:=g5.window (o:=0) (n:=n*i.size) (by omega)
        have hxs':(xs.drop 0).take (n*i.size)=xs:=by rw [List.drop_zero];exact List.take_of_length_le (by omega)
        rw [hxs'] at o1 o3
        have hold:∀j v,olds[j]?=some v→w.cell? ((⟨r.blk,0,none⟩:Addr).add j)=some v:=by
         intro j v hj
         rw [Addr.add_lit,cell_row g3]
         simpa using o4 j v hj
        have hfits:=growslice_fits (need:=n+m) (old:=c') (bytes:=P.bytesOf r.elem) (by omega) hb4
        rw [hbe] at hfits
        have hrun:=run_append_grow (P:=P) w t type r.elem i z ht hii hzz ⟨r.blk,0,none⟩ n c' olds o2 hold ⟨b,o,none⟩ m c2 ys f4 f5 (by omega) (by unfold maxLen at hb5;omega) hfits
        have hge:=grownCap_ge w (n+m) c' r.elem
        generalize hcc:olds.toArray++ys.toArray++Builtin.zeroCells z.cells (grownCap w (n+m) c' r.elem-(n+m))=cc at hrun
        have hccs:cc.size=n*i.size+m*i.size+(grownCap w (n+m) c' r.elem-(n+m))*i.size:=by
         rw [←hcc];simp only [Array.size_append,List.size_toArray,size_zeroCells,o2,f4,hzs]
        have hcr:CellsRel ρ cc 0 (xs++news):=by
         refine cells_append (ys:=ys) ?_ f3 f2 ?_
         ·intro j x hj
          have hlt:=(List.getElem?_eq_some_iff.1 hj).1
          obtain ⟨y,k2,k3⟩:=o1.get hj
          refine ⟨o3 x (List.mem_of_getElem? hj),y,?_,k3⟩
          rw [←hcc,Array.append_assoc,Array.getElem?_append_left (by simp;omega)]
          simpa using k2
         ·intro j y hj
          have hlt:=(List.getElem?_eq_some_iff.1 hj).1
          rw [←hcc,Array.append_assoc,Array.getElem?_append_right (by simp;omega),Array.getElem?_append_left (by simp;omega)]
          rw [←hj,List.getElem?_toArray]
          congr 1
          simp
          omega
        have nb:=NewBlock.drew w (.cells cc r.elem)
        obtain ⟨q1,q2⟩:=H.new (h₀:=h.set ii .dead) (o:=.arr r.elem (xs++news)) (r:=⟨w.heap.size,0,r.elem,P.cellsOf r.elem,cc.size⟩) nb rfl rfl (by simp) (by
          intro j
          by_cases hj:j=ii
          ·subst hj;right;rw [List.getElem?_set_self (H.lt hr)]
          ·left;rw [List.getElem?_set_ne (Ne.symm hj)]) ⟨rfl,rfl,cc,nb.new,rfl,hcr.mono (RMap.le_add H.none)⟩
        refine ⟨_,_,_,hrun,?_,q1,q2⟩
        refine sl_rel ρ h.length ⟨w.heap.size,0,r.elem,P.cellsOf r.elem,cc.size⟩ rfl hge (grownCap_le_maxLen w (n+m) c' r.elem hb5) ?_
        simp only [hccs,hce]
        rw [←Nat.add_mul,←Nat.add_mul]
        exact Nat.mul_le_mul_right _ (by omega)
    ·cases hi
   ·cases hi
  ·cases hi
 ·cases hi


theorem run_iCopy (H:HRel P ρ h w) {t e tt:TypeId} {type:TypeId} {d x d' x' v:Value} {h':Heap} (ht:P.underlying t=some (.slice e)) (hz:(P.info? e).map (·.size)=some 1) (hi:iCopy h d x=some (v,h')) (hd:VRel ρ d d') (hx:VRel ρ x x'):
  ∃w',(Builtin.copy_ #[t,tt] type #[d',x']).run P w=.ok v w'∧VRel ρ v v∧HRel P ρ h' w'∧Tr ρ h w ρ h' w':=by
 unfold iCopy at hi
 split at hi
 ·rename_i n m cs hn hm hcs
  have hdl:∃p c,d'=.slice p n c:=by
   unfold lenOfSl at hn
   split at hn
   ·cases hd;cases hn;exact ⟨_,_,rfl⟩
   ·cases hd;cases hn;exact ⟨_,_,rfl⟩
   ·cases hn
  have hxl:∃p c,x'=.slice p m c:=by
   unfold lenOfSl at hm
   split at hm
   ·cases hx;cases hm;exact ⟨_,_,rfl⟩
   ·cases hx;cases hm;exact ⟨_,_,rfl⟩
   ·cases hm
  split at hi
  ·rename_i h0
   simp at hi
   obtain ⟨rfl,rfl⟩:=hi
   obtain ⟨p,c,rfl⟩:=hdl
   obtain ⟨q,c',rfl⟩:=hxl
   exact ⟨w,run_copy_none (P:=P) w t tt type e p q n c m c' ht hz h0,.int _ _,H,.refl H⟩
  ·rename_i h0
   split at hi
   ·rename_i i o e' n' c0
    split at hi
    ·rename_i e2 xs hg
     split at hi
     ·rename_i hle
      simp only [Option.some.injEq,Prod.mk.injEq] at hi
      obtain ⟨rfl,rfl⟩:=hi
      cases hd with
      | slice hr ho hn2 hc hb=>
       rename_i o' c' r
       simp [lenOfSl] at hn
       subst hn
       have hpos:0<n':=by
        have:Nat.min m n'≤n':=Nat.min_le_right _ _
        omega
       have ho':o'=r.sh+o:=by
        rcases ho with ho | ⟨q1,q2,q3⟩
        ·exact ho
        ·omega
       subst ho'
       obtain ⟨a1,a2,c,a3,a4,a5⟩:=H.arr hr hg
       rcases sliceCells_rel H hcs hx with ⟨rfl,rfl⟩ | ⟨b,ob,nn,cc,rfl,hl,hlen,hcell,ys,hys,hload⟩
       ·obtain ⟨q,c',hq⟩:=hxl
        cases hq
        exact absurd (Nat.zero_min n') h0
       ·rw [hm] at hl
        cases hl
        rw [Nat.mul_one] at hlen
        have hysl:=hys.length
        have hlt:(ys.take (Nat.min m n')).length=Nat.min m n':=by
         rw [List.length_take,←hysl,hlen];exact Nat.min_eq_left (Nat.min_le_left _ _)
        have hct:(cs.take (Nat.min m n')).length=Nat.min m n':=by
         rw [List.length_take,hlen];exact Nat.min_eq_left (Nat.min_le_left _ _)
        have hvt:VsRel ρ (cs.take (Nat.min m n')) (ys.take (Nat.min m n')):=hys.take _
        have h1c:∀v∈cs.take (Nat.min m n'),isCell v=true:=fun v hv=>hcell v (List.mem_of_mem_take hv)
        have hrun:=run_copy_row (P:=P) w t tt type e r.blk (r.sh+o) n' c' ⟨b,ob,none⟩ m cc c e2 (ys.take (Nat.min m n')) ht hz a3 hlt
         (fun j v hj=>by
          rw [List.getElem?_take] at hj
          split at hj
          ·rw [Addr.add_lit];exact hload j v hj
          ·cases hj) (by have:=a5.le;rw [hlt,a2];omega) (hvt.oneCell h1c)
        rw [hlt,a2,Nat.zero_add] at hrun
        have heq:(c.toList.take o++ys.take (Nat.min m n')++c.toList.drop (o+Nat.min m n')).toArray=(setAt c.toList o (ys.take (Nat.min m n'))).toArray:=by simp only [setAt,hlt]
        rw [heq] at hrun
        have hmut:isMut h i:=.inl ⟨e2,xs,hg⟩
        obtain ⟨q1,q2⟩:=H.set (o:=.arr e2 (setAt xs o (cs.take (Nat.min m n')))) hr hmut (SetBlock.row a3 (setAt c.toList o (ys.take (Nat.min m n'))).toArray)
         ⟨a1,a2,_,(SetBlock.row a3 _).here,by simp [setAt_length (show o+(ys.take (Nat.min m n')).length≤c.toList.length by have:=a5.le;simp only [Array.length_toList];omega),a4],a5.put hvt h1c (by omega)⟩
        refine ⟨_,?_,.int _ _,q1,q2⟩
        rw [a2,Nat.zero_add];exact hrun
     ·cases hi
    ·cases hi
   ·cases hi
 ·cases hi

end
end Go.Sim


namespace Go.Sim

theorem SetBlock.obj {w:World} {g:Nat} {x:Obj} (hg:w.heap[g]?=some x) (b:Obj):SetBlock w g b { w with heap:=w.heap.setIfInBounds g b } where
 here:=by
  have:=(Array.getElem?_eq_some_iff.1 hg).1
  simp [this]
 other:=by intro j hj;simp [Ne.symm hj]
 size:=by simp
 os:=rfl
 tape:=rfl
 output:=rfl

theorem find_set {ρ:RMap} {es:List (ByteArray×Value)} {ents:List MapEntry} (h:EntsRel ρ es ents) (k:ByteArray) {v v':Value} (hv:VRel ρ v v') (born:Nat):∀i:Nat,
  (Instr.findNow .string (.string k) ents i=some none∧EntsRel ρ (setS k v es) (ents++[{ key:=.string k,val:=v',born }]))∨
  (∃u j,Instr.findNow .string (.string k) ents i=some (some (i+j,u))∧(∃en,ents[j]?=some en∧en.key=.string k)∧EntsRel ρ (setS k v es) (ents.modify j fun e=>{ e with key:=.string k,val:=v' })):=by
 induction h with
 | nil=>intro i;exact .inl ⟨rfl,.cons rfl hv .nil⟩
 | cons h1 h2 h3 ih=>
  rename_i k0 v0 en es ents
  intro i
  by_cases hk:k=k0
  ·subst hk
   have hb:(k==k)=true:=(MapKept.bytes_beq k k).2 rfl
   refine .inr ⟨en.val,0,?_,⟨en,rfl,h1⟩,?_⟩
   ·simp [Instr.findNow,h1,Instr.sameNow,hb]
   ·simp only [setS,if_true,List.modify_zero_cons]
    exact .cons rfl hv h3
  ·have hb:(k==k0)=false:=by
    rw [Bool.eq_false_iff]
    exact fun e=>hk ((MapKept.bytes_beq k k0).1 e)
   rcases ih (i+1) with ⟨e1,e2⟩ | ⟨u,j,e1,e2,e3⟩
   ·refine .inl ⟨?_,?_⟩
    ·simp [Instr.findNow,h1,Instr.sameNow,hb,e1]
    ·simp only [setS,if_neg hk,List.cons_append]
     exact .cons h1 h2 e2
   ·refine .inr ⟨u,j+1,?_,by simpa using e2,?_⟩
    ·simp [Instr.findNow,h1,Instr.sameNow,hb,e1];omega
    ·simp only [setS,if_neg hk,List.modify_succ_cons]
     exact .cons h1 h2 e3

theorem find_setI {kd:IntKind} {ρ:RMap} {es:List (Int×Value)} {ents:List MapEntry} (h:EntsRelI kd ρ es ents) (k:Int) {v v':Value} (hv:VRel ρ v v') (born:Nat):∀i:Nat,
  (Instr.findNow (.int kd) (.int kd k) ents i=some none∧EntsRelI kd ρ (setI k v es) (ents++[{ key:=.int kd k,val:=v',born }]))∨
  (∃u j,Instr.findNow (.int kd) (.int kd k) ents i=some (some (i+j,u))∧(∃en,ents[j]?=some en∧en.key=.int kd k)∧EntsRelI kd ρ (setI k v es) (ents.modify j fun e=>{ e with key:=.int kd k,val:=v' })):=by
 induction h with
 | nil=>intro i;exact .inl ⟨rfl,.cons rfl hv .nil⟩
 | cons h1 h2 h3 ih=>
  rename_i k0 v0 en es ents
  intro i
  by_cases hk:k=k0
  ·subst hk
   have hb:(k==k)=true:=beq_self_eq_true k
   refine .inr ⟨en.val,0,?_,⟨en,rfl,h1⟩,?_⟩
   ·simp [Instr.findNow,h1,Instr.sameNow,hb]
   ·simp only [setI,if_true,List.modify_zero_cons]
    exact .cons rfl hv h3
  ·have hb:(k==k0)=false:=by
    exact beq_false_of_ne hk
   rcases ih (i+1) with ⟨e1,e2⟩ | ⟨u,j,e1,e2,e3⟩
   ·refine .inl ⟨?_,?_⟩
    ·simp [Instr.findNow,h1,Instr.sameNow,hb,e1]
    ·simp only [setI,if_neg hk,List.cons_append]
     exact .cons h1 h2 e2
   ·refine .inr ⟨u,j+1,?_,by simpa using e2,?_⟩
    ·simp [Instr.findNow,h1,Instr.sameNow,hb,e1];omega
    ·simp only [setI,if_neg hk,List.modify_succ_cons]
     exact .cons h1 h2 e3

section
variable {P : Program} {w : World} {ρ : RMap} {h : Heap}

theorem run_iMkMap (H:HRel P ρ h w) (t:TypeId):∃w' ρ' v',(Instr.makeMap t none).run P w=.ok v' w'∧VRel ρ' (.map (some h.length)) v'∧HRel P ρ' (h++[.smap []]) w'∧Tr ρ h w ρ' (h++[.smap []]) w':=by
 have nb:=NewBlock.alloc w (.map #[] 0)
 obtain ⟨q1,q2⟩:=H.new (h₀:=h) (o:=.smap []) (r:=⟨w.heap.size,0,0,P.cellsOf 0,0⟩) nb rfl rfl rfl (fun _=>.inl rfl) ⟨#[],0,nb.new,rfl,fun j k v hj=>by simp at hj⟩
 refine ⟨_,_,.map (some w.heap.size),?_,VRel.map (add_self _ _ _),q1,q2⟩
 simp [Instr.makeMap]

theorem run_iMkMapI (H:HRel P ρ h w) (t:TypeId) (kd:IntKind):∃w' ρ' v',(Instr.makeMap t none).run P w=.ok v' w'∧VRel ρ' (.map (some h.length)) v'∧HRel P ρ' (h++[.imap kd []]) w'∧Tr ρ h w ρ' (h++[.imap kd []]) w':=by
 have nb:=NewBlock.alloc w (.map #[] 0)
 obtain ⟨q1,q2⟩:=H.new (h₀:=h) (o:=.imap kd []) (r:=⟨w.heap.size,0,0,P.cellsOf 0,0⟩) nb rfl rfl rfl (fun _=>.inl rfl) ⟨#[],0,nb.new,rfl,fun j k v hj=>by simp at hj⟩
 refine ⟨_,_,.map (some w.heap.size),?_,VRel.map (add_self _ _ _),q1,q2⟩
 simp [Instr.makeMap]

theorem run_setObj {g:Nat} {ents:Array MapEntry} {clock:Nat} (hg:w.heap[g]?=some (.map ents clock)) (o:Obj):(setObj g o).run P w=.ok () { w with heap:=w.heap.setIfInBounds g o }:=by
 simp [setObj,Sem.run,hg]

theorem run_iMupd (H:HRel P ρ h w) {t kt et:TypeId} {m m' k k' v v':Value} {h':Heap} (ht:P.underlying t=some (.map kt et)) (hk:isString P kt=true)
  (hi:iMupd h m k v=some h') (hm:VRel ρ m m') (hkk:VRel ρ k k') (hv:VRel ρ v v'):∃w',(Instr.mapUpdate t m' k' v').run P w=.ok () w'∧HRel P ρ h' w'∧Tr ρ h w ρ h' w':=by
 unfold iMupd at hi
 split at hi
 ·rename_i i key
  rw [hkk.string_inv]
  cases hm with
  | map hr=>
   rename_i r
   split at hi
   ·rename_i es he
    simp at hi;subst hi
    obtain ⟨ents,clock,hb,hents⟩:=H.ents hr he
    have hks:=isString_some hk
    have hmut:isMut h i:=.inr (.inl ⟨es,he⟩)
    have mk:∀(ents':Array MapEntry) (clock':Nat),EntsRel ρ (setS key v es) ents'.toList→HRel P ρ (h.set i (.smap (setS key v es))) { w with heap:=w.heap.setIfInBounds r.blk (.map ents' clock') }∧
      Tr ρ h w ρ (h.set i (.smap (setS key v es))) { w with heap:=w.heap.setIfInBounds r.blk (.map ents' clock') }:=by
     intro ents' clock' he'
     have sb:=SetBlock.obj hb (.map ents' clock')
     have:=he'.to
     exact H.set (o:=.smap (setS key v es)) hr hmut sb ⟨ents',clock',sb.here,by simpa using this.1,by simpa using this.2⟩
    rcases find_set hents key hv clock 0 with ⟨e1,e2⟩ | ⟨u,j,e1,⟨en,e2,e2'⟩,e3⟩
    ·obtain ⟨q1,q2⟩:=mk (ents.push { key:=.string key,val:=v',born:=clock }) (clock+1) (by simpa using e2)
     refine ⟨_,?_,q1,q2⟩
     simp [Instr.mapUpdate,run_underlying ht,run_getObj_map hb,run_checkKey _ hks,run_findKey hks key _ e1,run_setObj hb]
    ·obtain ⟨q1,q2⟩:=mk (ents.modify j fun e=>{ e with key:=.string key,val:=v' }) clock (by simpa using e3)
     refine ⟨_,?_,q1,q2⟩
     have hget:ents[j]?=some en:=by simpa using e2
     have hsame:Instr.sameBits 10000 (.string key) (.string key)=true:=by
      simp [Instr.sameBits,(MapKept.bytes_beq key key).2 rfl]
     have hstay:(Instr.keyThatStays (((ents[j]?).map (·.key)).getD (.string key)) (.string key)).run P w=.ok (.string key) w:=by
      rw [hget]
      simp [Instr.keyThatStays,e2',hsame]
     simp only [Instr.mapUpdate,Sem.run_bind,run_underlying ht,Result.andThen_ok,run_getObj_map hb,run_checkKey _ hks,run_findKey hks key _ e1]
     simp only [Nat.zero_add,hstay,Result.andThen_ok,run_setObj hb]
   ·cases hi
 ·cases hi

theorem run_iMupdI (H:HRel P ρ h w) {t kt et:TypeId} {kd:IntKind} {m m' k k' v v':Value} {h':Heap} (ht:P.underlying t=some (.map kt et)) (hk:isIntK P kt=some kd)
  (hi:iMupdI kd h m k v=some h') (hm:VRel ρ m m') (hkk:VRel ρ k k') (hv:VRel ρ v v'):∃w',(Instr.mapUpdate t m' k' v').run P w=.ok () w'∧HRel P ρ h' w'∧Tr ρ h w ρ h' w':=by
 unfold iMupdI at hi
 split at hi
 ·rename_i i kd' key
  rw [hkk.int_inv]
  cases hm with
  | map hr=>
   rename_i r
   split at hi
   ·rename_i kd'' es he
    split at hi
    ·rename_i hkd
     obtain ⟨rfl,rfl⟩:=hkd
     simp at hi;subst hi
     obtain ⟨ents,clock,hb,hents⟩:=H.entsI hr he
     have hks:=isIntK_some hk
     have hmut:isMut h i:=.inr (.inr (.inr (.inl ⟨_,es,he⟩)))
     have mk:∀(ents':Array MapEntry) (clock':Nat),EntsRelI kd'' ρ (setI key v es) ents'.toList→HRel P ρ (h.set i (.imap kd'' (setI key v es))) { w with heap:=w.heap.setIfInBounds r.blk (.map ents' clock') }∧
       Tr ρ h w ρ (h.set i (.imap kd'' (setI key v es))) { w with heap:=w.heap.setIfInBounds r.blk (.map ents' clock') }:=by
      intro ents' clock' he'
      have sb:=SetBlock.obj hb (.map ents' clock')
      have:=he'.to
      exact H.set (o:=.imap kd'' (setI key v es)) hr hmut sb ⟨ents',clock',sb.here,by simpa using this.1,by simpa using this.2⟩
     rcases find_setI hents key hv clock 0 with ⟨e1,e2⟩ | ⟨u,j,e1,⟨en,e2,e2'⟩,e3⟩
     ·obtain ⟨q1,q2⟩:=mk (ents.push { key:=.int kd'' key,val:=v',born:=clock }) (clock+1) (by simpa using e2)
      refine ⟨_,?_,q1,q2⟩
      simp [Instr.mapUpdate,run_underlying ht,run_getObj_map hb,run_checkKeyI _ hks,run_findKeyI hks key _ e1,run_setObj hb]
     ·obtain ⟨q1,q2⟩:=mk (ents.modify j fun e=>{ e with key:=.int kd'' key,val:=v' }) clock (by simpa using e3)
      refine ⟨_,?_,q1,q2⟩
      have hget:ents[j]?=some en:=by simpa using e2
      have hsame:∀kd,Instr.sameBits 10000 (.int kd key) (.int kd key)=true:=by
       intro kd
       simp [Instr.sameBits]
      have hstay:(Instr.keyThatStays (((ents[j]?).map (·.key)).getD (.int kd'' key)) (.int kd'' key)).run P w=.ok (.int kd'' key) w:=by
       rw [hget]
       simp [Instr.keyThatStays,e2',hsame]
      simp only [Instr.mapUpdate,Sem.run_bind,run_underlying ht,Result.andThen_ok,run_getObj_map hb,run_checkKeyI _ hks,run_findKeyI hks key _ e1]
      simp only [Nat.zero_add,hstay,Result.andThen_ok,run_setObj hb]
    ·cases hi
   ·cases hi
 ·cases hi

theorem run_iMkMapG (H:HRel P ρ h w) (t:TypeId) (g:GKind):∃w' ρ' v',(Instr.makeMap t none).run P w=.ok v' w'∧VRel ρ' (.map (some h.length)) v'∧HRel P ρ' (h++[.gmap g 0 []]) w'∧Tr ρ h w ρ' (h++[.gmap g 0 []]) w':=by
 have nb:=NewBlock.alloc w (.map #[] 0)
 obtain ⟨q1,q2⟩:=H.new (h₀:=h) (o:=.gmap g 0 []) (r:=⟨w.heap.size,0,0,P.cellsOf 0,0⟩) nb rfl rfl rfl (fun _=>.inl rfl) ⟨by simp,#[],nb.new,rfl,fun j b k v hj=>by simp at hj⟩
 refine ⟨_,_,.map (some w.heap.size),?_,VRel.map (add_self _ _ _),q1,q2⟩
 simp [Instr.makeMap]

theorem EntsG.set {g:GKind} {c:Nat} {es:List (Nat×Value×Value)} {ents:Array MapEntry} (E:EntsG ρ g es ents) {k v v':Value} (hk:gkIs g k=true) (hv:VRel ρ v v'):
  (posG k es=none→EntsG ρ g (es++[(c,k,v)]) (ents.push { key:=k,val:=v',born:=c }))∧∀j b u,posG k es=some j→es[j]?=some (b,k,u)→EntsG ρ g (es.modify j fun e=>(e.1,k,v)) (ents.modify j fun e=>{ e with key:=k,val:=v' }):=by
 constructor
 ·intro hp
  have hno:∀e∈es,e.2.1≠k:=by
   rcases posG_spec hk es with ⟨_,h2⟩ | ⟨j,e,h1,_⟩
   ·exact h2
   ·rw [hp] at h1;cases h1
  refine ⟨by simp [E.size],?_,?_⟩
  ·rw [List.map_append,List.nodup_append]
   refine ⟨E.nodup,by simp,?_⟩
   intro a ha b hb
   obtain ⟨e,he,rfl⟩:=List.mem_map.1 ha
   simp at hb
   subst hb
   exact hno e he
  ·intro j b k1 v1 hj
   by_cases hlt:j<es.length
   ·rw [List.getElem?_append_left hlt] at hj
    obtain ⟨g1,en,g2,g3⟩:=E.get j b k1 v1 hj
    exact ⟨g1,en,by rw [Array.getElem?_push_lt (by rw [E.size];exact hlt)];rw [Array.getElem?_eq_getElem (by rw [E.size];exact hlt)] at g2;exact g2,g3⟩
   ·rw [List.getElem?_append_right (by omega)] at hj
    have hj0:j=es.length:=by
     have:=(List.getElem?_eq_some_iff.1 hj).1
     simp at this
     omega
    subst hj0
    simp at hj
    obtain ⟨rfl,rfl,rfl⟩:=hj
    exact ⟨hk,{ key:=k,val:=v',born:=c },by rw [←E.size];simp,rfl,rfl,hv⟩
 ·intro j b u hp hj
  have hkeys:((es.modify j fun e=>(e.1,k,v)).map fun e=>e.2.1)=es.map fun e=>e.2.1:=by
   apply List.ext_getElem?
   intro i
   simp only [List.getElem?_map,List.getElem?_modify]
   by_cases hij:j=i
   ·subst hij;simp [hj]
   ·simp [hij]
  refine ⟨by simp [E.size],by rw [hkeys];exact E.nodup,?_⟩
  intro i b1 k1 v1 hi
  rw [List.getElem?_modify] at hi
  by_cases hij:j=i
  ·subst hij
   simp [hj] at hi
   obtain ⟨rfl,rfl,rfl⟩:=hi
   obtain ⟨g1,en,g2,g3,g4,_⟩:=E.get j b k u hj
   refine ⟨hk,{ en with key:=k,val:=v' },?_,rfl,g4,hv⟩
   rw [Array.getElem?_modify]
   simp [g2]
  ·simp [hij] at hi
   obtain ⟨g1,en,g2,g3⟩:=E.get i b1 k1 v1 hi
   refine ⟨g1,en,?_,g3⟩
   rw [Array.getElem?_modify]
   simp [hij,g2]

theorem run_iMupdG (H:HRel P ρ h w) {t:TypeId} {g:GKind} {m m' k k' v v':Value} {h':Heap} (hg:gkOf P t=some g)
  (hi:iMupdG g h m k v=some h') (hm:VRel ρ m m') (hkk:VRel ρ k k') (hv:VRel ρ v v'):∃w',(Instr.mapUpdate t m' k' v').run P w=.ok () w'∧HRel P ρ h' w'∧Tr ρ h w ρ h' w':=by
 obtain ⟨kt,et,ht,L⟩:=glaw_of hg
 unfold iMupdG at hi
 split at hi
 ·rename_i i
  cases hm with
  | map hr=>
   rename_i r
   split at hi
   ·rename_i g' c es he
    split at hi
    ·rename_i hkd
     obtain ⟨rfl,hk,_⟩:=hkd
     simp at hi;subst hi
     rw [hkk.key hk]
     obtain ⟨ents,hb,E⟩:=H.entsG hr he
     have hmut:isMut h i:=.inr (.inr (.inr (.inr (.inl ⟨_,_,es,he⟩))))
     obtain ⟨S1,S2⟩:=E.set (c:=c) hk hv
     rcases run_findG (w:=w) L E hk with ⟨⟨e1,_⟩,e2⟩ | ⟨j,b,u,en,e1,e2,e3,e4,e5,e6,e7⟩
     ·have E':=S1 e1
      have sb:=SetBlock.obj hb (.map (ents.push { key:=k,val:=v',born:=c }) (c+1))
      have hset:setG c k v es=es++[(c,k,v)]:=by simp [setG,e1]
      have hclk:clkG c k es=c+1:=by simp [clkG,e1]
      obtain ⟨q1,q2⟩:=H.set (o:=.gmap g' (clkG c k es) (setG c k v es)) hr hmut sb (by rw [hset,hclk];exact ⟨E'.nodup,_,sb.here,E'.size,E'.get⟩)
      refine ⟨_,?_,q1,q2⟩
      simp [Instr.mapUpdate,run_underlying ht,run_getObj_map hb,L.check w _ k hk,e2,run_setObj hb]
     ·have E':=S2 j b u e1 e2
      have sb:=SetBlock.obj hb (.map (ents.modify j fun e=>{ e with key:=k,val:=v' }) c)
      have hset:setG c k v es=es.modify j fun e=>(e.1,k,v):=by simp [setG,e1]
      have hclk:clkG c k es=c:=by simp [clkG,e1]
      obtain ⟨q1,q2⟩:=H.set (o:=.gmap g' (clkG c k es) (setG c k v es)) hr hmut sb (by rw [hset,hclk];exact ⟨E'.nodup,_,sb.here,E'.size,E'.get⟩)
      refine ⟨_,?_,q1,q2⟩
      have hstay:(Instr.keyThatStays (((ents[j]?).map (·.key)).getD k) k).run P w=.ok k w:=by
       rw [e3]
       simp [e4,L.stays w k hk]
      simp only [Instr.mapUpdate,Sem.run_bind,run_underlying ht,Result.andThen_ok,run_getObj_map hb,L.check w _ k hk,e7]
      simp only [hstay,Result.andThen_ok,run_setObj hb]
    ·cases hi
   ·cases hi
 ·cases hi

theorem EntsG.era {g:GKind} {es:List (Nat×Value×Value)} {ents:Array MapEntry} (E:EntsG ρ g es ents) {j:Nat} (hj:j<es.length):EntsG ρ g (es.eraseIdx j) (ents.eraseIdxIfInBounds j):=by
 have hlt:j<ents.size:=by rw [E.size];exact hj
 have he:ents.eraseIdxIfInBounds j=ents.eraseIdx j hlt:=by simp [Array.eraseIdxIfInBounds,hlt]
 rw [he]
 refine ⟨by rw [Array.size_eraseIdx,List.length_eraseIdx,if_pos hj,E.size],?_,?_⟩
 ·refine List.Nodup.sublist ?_ E.nodup
  exact (List.eraseIdx_sublist _ _).map _
 ·intro i b k v hi
  rw [List.getElem?_eraseIdx] at hi
  split at hi
  ·rename_i hij
   obtain ⟨g1,en,g2,g3⟩:=E.get i b k v hi
   exact ⟨g1,en,by rw [Array.getElem?_eraseIdx,if_pos hij];exact g2,g3⟩
  ·rename_i hij
   obtain ⟨g1,en,g2,g3⟩:=E.get (i+1) b k v hi
   exact ⟨g1,en,by rw [Array.getElem?_eraseIdx,if_neg hij];exact g2,g3⟩

theorem run_iDelG (H:HRel P ρ h w) {t ty:TypeId} {ts:Array TypeId} {g:GKind} {m m' k k':Value} {h':Heap} (hts:ts[0]?=some t) (hg:gkOf P t=some g)
  (hi:iDelG g h m k=some h') (hm:VRel ρ m m') (hkk:VRel ρ k k'):∃w',(Builtin.delete_ ts ty #[m',k']).run P w=.ok (.tuple #[]) w'∧HRel P ρ h' w'∧Tr ρ h w ρ h' w':=by
 obtain ⟨kt,et,ht,L⟩:=glaw_of hg
 unfold iDelG at hi
 split at hi
 ·rename_i i
  cases hm with
  | map hr=>
   rename_i r
   split at hi
   ·rename_i g' c es he
    split at hi
    ·rename_i hkd
     obtain ⟨rfl,hk⟩:=hkd
     simp at hi;subst hi
     rw [hkk.key hk]
     obtain ⟨ents,hb,E⟩:=H.entsG hr he
     have hmut:isMut h i:=.inr (.inr (.inr (.inr (.inl ⟨_,_,es,he⟩))))
     rcases run_findG (w:=w) L E hk with ⟨⟨e1,_⟩,e2⟩ | ⟨j,b,u,en,e1,e2,e3,e4,e5,e6,e7⟩
     ·have sb:=SetBlock.obj hb (.map ents c)
      have hset:eraG k es=es:=by simp [eraG,e1]
      obtain ⟨q1,q2⟩:=H.set (o:=.gmap g' c (eraG k es)) hr hmut sb (by rw [hset];exact ⟨E.nodup,_,sb.here,E.size,E.get⟩)
      refine ⟨_,?_,q1,q2⟩
      simp [Builtin.delete_,hts,run_underlying ht,run_getObj_map hb,L.check w _ k hk,e2,run_setObj hb]
     ·have E':=E.era (List.getElem?_eq_some_iff.1 e2).1
      have sb:=SetBlock.obj hb (.map (ents.eraseIdxIfInBounds j) c)
      have hset:eraG k es=es.eraseIdx j:=by simp [eraG,e1]
      obtain ⟨q1,q2⟩:=H.set (o:=.gmap g' c (eraG k es)) hr hmut sb (by rw [hset];exact ⟨E'.nodup,_,sb.here,E'.size,E'.get⟩)
      refine ⟨_,?_,q1,q2⟩
      simp [Builtin.delete_,hts,run_underlying ht,run_getObj_map hb,L.check w _ k hk,e7,run_setObj hb]
    ·cases hi
   ·cases hi
 ·cases hi

theorem run_iRangeG (H:HRel P ρ h w) {t:TypeId} {g:GKind} {x x' v:Value} {h':Heap} (hg:gkOf P t=some g) (hi:iRangeG h x=some (v,h')) (hx:VRel ρ x x'):
  ∃w' ρ' v',(Instr.range t x').run P w=.ok v' w'∧VRel ρ' v v'∧HRel P ρ' h' w'∧Tr ρ h w ρ' h' w':=by
 obtain ⟨kt,et,ht,L⟩:=glaw_of hg
 unfold iRangeG at hi
 split at hi
 ·rename_i i
  cases hx with
  | map hr=>
   rename_i r
   split at hi
   ·rename_i g' c es he
    simp at hi
    obtain ⟨rfl,rfl⟩:=hi
    obtain ⟨ents,hb,E⟩:=H.entsG hr he
    have nb:=NewBlock.alloc w (.mapIter (some r.blk) c #[] c)
    have hne:i≠h.length:=by
     have:=(List.getElem?_eq_some_iff.1 he).1
     omega
    obtain ⟨q1,q2⟩:=H.new (h₀:=h) (o:=.iter i c [] c) (r:=⟨w.heap.size,0,0,P.cellsOf 0,0⟩) nb rfl rfl rfl (fun _=>.inl rfl)
     ⟨rfl,r,by simp [RMap.add,hne,hr],nb.new⟩
    refine ⟨_,_,.pointer (some ⟨w.heap.size,0,none⟩),?_,?_,q1,q2⟩
    ·simp [Instr.range,run_underlying ht,run_getObj_map hb,newObj,Sem.run,Result.andThen]
    ·exact VRel.ptr (o:=0) (add_self _ _ _)
   ·cases hi
 ·cases hi

theorem Done.val {v v':Value} {h':Heap} {s:Result Next} {w':World} {ρ':RMap} (e:s=.ok (.value v') w') (a:VRel ρ' v v') (b:HRel P ρ' h' w') (c:Tr ρ h w ρ' h' w'):Done P ρ h w v h' s:=
 ⟨_,_,_,_,e,.inl rfl,a,b,c⟩
theorem Done.skip {h':Heap} {s:Result Next} {w':World} (e:s=.ok .skip w') (b:HRel P ρ h' w') (c:Tr ρ h w ρ h' w'):Done P ρ h w undef h' s:=
 ⟨_,_,_,_,e,.inr ⟨rfl,rfl⟩,VRel.undef _,b,c⟩

theorem eff_sound {o:Oper} {eo:EOp} {g g':Operand→Value} (hc:compE P o.op=some eo) (hok:o.op.operands.all opdOk=true) (H:HRel P ρ h w)
  (hg:∀x,opdOk x=true→VRel ρ (g x) (g' x)) {v:Value} {h':Heap} (hi:ieff eo g h=some (v,h')):Done P ρ h w v h' ((execOp g' o).run P w):=by
 cases ho:o.op with
 | store t a x=>
  rw [ho] at hc hok
  simp [Op.operands] at hok
  simp only [compE] at hc
  split at hc
  ·rename_i hk
   simp at hc;subst hc
   simp only [ieff,Option.map_eq_some_iff,Prod.mk.injEq] at hi
   obtain ⟨h'',hi,rfl,rfl⟩:=hi
   obtain ⟨w',q1,q2,q3⟩:=run_iStore H hk hi (hg a hok.1) (hg x hok.2)
   exact Done.skip (w':=w') (by simp [execOp,ho,q1]) q2 q3
  ·cases hc
 | box e x=>
  rw [ho] at hc hok
  simp [Op.operands] at hok
  simp [compE] at hc;subst hc
  obtain ⟨w',ρ',v',q1,q2,q3,q4⟩:=run_iBox H hi (hg x hok)
  exact Done.val (v':=v') (w':=w') (by simp [execOp,ho,q1]) q2 q3 q4
 | alloc e=>
  rw [ho] at hc
  simp only [compE,Option.map_eq_some_iff] at hc
  obtain ⟨zs,hz,rfl⟩:=hc
  simp [ieff] at hi
  obtain ⟨rfl,rfl⟩:=hi
  obtain ⟨w',ρ',v',q1,q2,q3,q4⟩:=run_iAlloc H hz
  exact Done.val (v':=v') (w':=w') (by simp [execOp,ho,q1]) q2 q3 q4
 | buildSlice t n ps=>
  rw [ho] at hc hok
  simp only [compE] at hc
  simp only [Op.operands] at hok
  split at hc
  ·rename_i e ht
   split at hc
   ·rename_i zs hz
    split at hc
    ·rename_i hb
     simp at hc;subst hc
     have hq:∀q∈ps.toList,opdOk q.2=true:=by
      intro q hm
      rw [Array.all_eq_true'] at hok
      exact hok q.2 (by simp;exact ⟨q.1,by simpa using hm⟩)
     have hp:=partsRel_total hg (fun i=>(i*P.cellsOf e,P.cellsOf e)) ps.toList hq
     obtain ⟨w',ρ',v',q1,q2,q3,q4⟩:=run_iMkSl H ht hz hb.1 hb.2 (qs:=ps.map fun (i,x)=>(i,g' x)) (by simpa using hp) hi
     exact Done.val (v':=v') (w':=w') (by simp [execOp,ho,q1]) q2 q3 q4
    ·cases hc
   ·cases hc
  ·cases hc
 | makeSlice t l c=>
  rw [ho] at hc hok
  simp [Op.operands] at hok
  simp only [compE] at hc
  split at hc
  ·rename_i e ht
   split at hc
   ·rename_i zs hz
    simp at hc;subst hc
    obtain ⟨w',ρ',v',q1,q2,q3,q4⟩:=run_iMake H ht hz hi (hg l hok.1) (hg c hok.2)
    exact Done.val (v':=v') (w':=w') (by simp [execOp,ho,q1]) q2 q3 q4
   ·cases hc
  ·cases hc
 | range t x=>
  rw [ho] at hc hok
  simp [Op.operands] at hok
  simp only [compE,Option.map_eq_some_iff] at hc
  obtain ⟨g,hgk,rfl⟩:=hc
  obtain ⟨w',ρ',v',q1,q2,q3,q4⟩:=run_iRangeG H hgk hi (hg x hok)
  exact Done.val (v':=v') (w':=w') (by simp [execOp,ho,q1]) q2 q3 q4
 | next it b=>
  rw [ho] at hc
  cases b with
  | false=>simp [compE] at hc;subst hc;simp [ieff] at hi
  | true=>simp [compE] at hc
 | makeMap t r=>
  rw [ho] at hc
  cases r with
  | none=>
   cases hgk:gkOf P t with
   | some g=>
    simp only [compE,hgk,Option.some.injEq] at hc
    subst hc
    simp [ieff] at hi
    obtain ⟨rfl,rfl⟩:=hi
    obtain ⟨w',ρ',v',q1,q2,q3,q4⟩:=run_iMkMapG H t g
    exact Done.val (v':=v') (w':=w') (by simp [execOp,ho,q1]) q2 q3 q4
   | none=>
   have two:eo=.mkMap∨∃kd,eo=.mkMapI kd:=by
    simp only [compE,hgk] at hc
    split at hc
    ·split at hc
     ·simp at hc;exact .inr ⟨_,hc.symm⟩
     ·simp at hc;exact .inl hc.symm
    ·simp at hc;exact .inl hc.symm
   rcases two with rfl | ⟨kd,rfl⟩
   ·simp [ieff] at hi
    obtain ⟨rfl,rfl⟩:=hi
    obtain ⟨w',ρ',v',q1,q2,q3,q4⟩:=run_iMkMap H t
    exact Done.val (v':=v') (w':=w') (by simp [execOp,ho,q1]) q2 q3 q4
   ·simp [ieff] at hi
    obtain ⟨rfl,rfl⟩:=hi
    obtain ⟨w',ρ',v',q1,q2,q3,q4⟩:=run_iMkMapI H t kd
    exact Done.val (v':=v') (w':=w') (by simp [execOp,ho,q1]) q2 q3 q4
  | some r=>simp [compE] at hc
 | mapUpdate t m k x=>
  rw [ho] at hc hok
  simp [Op.operands] at hok
  simp only [compE] at hc
  split at hc
  ·rename_i g hgk
   simp at hc;subst hc
   simp only [ieff,Option.map_eq_some_iff,Prod.mk.injEq] at hi
   obtain ⟨h'',hi,rfl,rfl⟩:=hi
   obtain ⟨w',q1,q2,q3⟩:=run_iMupdG H hgk hi (hg m hok.1) (hg k hok.2.1) (hg x hok.2.2)
   exact Done.skip (w':=w') (by simp [execOp,ho,q1]) q2 q3
  split at hc
  ·rename_i kt et ht
   split at hc
   ·rename_i hk
    simp at hc;subst hc
    simp only [ieff,Option.map_eq_some_iff,Prod.mk.injEq] at hi
    obtain ⟨h'',hi,rfl,rfl⟩:=hi
    obtain ⟨w',q1,q2,q3⟩:=run_iMupd H ht hk hi (hg m hok.1) (hg k hok.2.1) (hg x hok.2.2)
    exact Done.skip (w':=w') (by simp [execOp,ho,q1]) q2 q3
   ·simp only [Option.map_eq_some_iff] at hc
    obtain ⟨kd,hkd,rfl⟩:=hc
    simp only [ieff,Option.map_eq_some_iff,Prod.mk.injEq] at hi
    obtain ⟨h'',hi,rfl,rfl⟩:=hi
    obtain ⟨w',q1,q2,q3⟩:=run_iMupdI H ht hkd hi (hg m hok.1) (hg k hok.2.1) (hg x hok.2.2)
    exact Done.skip (w':=w') (by simp [execOp,ho,q1]) q2 q3
  ·cases hc
 | insert t m k x=>
  rw [ho] at hc hok
  simp [Op.operands] at hok
  simp only [compE] at hc
  split at hc
  ·rename_i g hgk
   simp at hc;subst hc
   simp only [ieff,Option.map_eq_some_iff,Prod.mk.injEq] at hi
   obtain ⟨h'',hi,rfl,rfl⟩:=hi
   obtain ⟨w',q1,q2,q3⟩:=run_iMupdG H hgk hi (hg m hok.1) (hg k hok.2.1) (hg x hok.2.2)
   exact Done.skip (w':=w') (by simp [execOp,ho,q1]) q2 q3
  split at hc
  ·rename_i kt et ht
   split at hc
   ·rename_i hk
    simp at hc;subst hc
    simp only [ieff,Option.map_eq_some_iff,Prod.mk.injEq] at hi
    obtain ⟨h'',hi,rfl,rfl⟩:=hi
    obtain ⟨w',q1,q2,q3⟩:=run_iMupd H ht hk hi (hg m hok.1) (hg k hok.2.1) (hg x hok.2.2)
    exact Done.skip (w':=w') (by simp [execOp,ho,q1]) q2 q3
   ·simp only [Option.map_eq_some_iff] at hc
    obtain ⟨kd,hkd,rfl⟩:=hc
    simp only [ieff,Option.map_eq_some_iff,Prod.mk.injEq] at hi
    obtain ⟨h'',hi,rfl,rfl⟩:=hi
    obtain ⟨w',q1,q2,q3⟩:=run_iMupdI H ht hkd hi (hg m hok.1) (hg k hok.2.1) (hg x hok.2.2)
    exact Done.skip (w':=w') (by simp [execOp,ho,q1]) q2 q3
  ·cases hc
 | call c=>
  rw [ho] at hc hok
  obtain ⟨callee,args,argTypes⟩:=c
  cases callee with
  | builtin b=>
   cases b with
   | append=>
    simp only [compE] at hc
    split at hc
    ·rename_i s x t t' hx ht0
     obtain rfl:args=#[s,x]:=Array.ext' hx
     obtain rfl:argTypes=#[t,t']:=Array.ext' ht0
     simp [Op.operands,Call.operands] at hok
     split at hc
     ·rename_i hte
      subst hte
      split at hc
      ·rename_i e ht
       split at hc
       ·rename_i zs hz
        simp at hc;subst hc
        obtain ⟨w',ρ',v',q1,q2,q3,q4⟩:=run_iApp (type:=o.type) H ht hz hi (hg s hok.1) (hg x hok.2)
        exact Done.val (v':=v') (w':=w') (by simp [execOp,ho,resolve,invoke,builtin,q1]) q2 q3 q4
       ·cases hc
      ·cases hc
     ·cases hc
    ·cases hc
   | copy=>
    simp only [compE] at hc
    split at hc
    ·rename_i d x t t' hx ht0
     obtain rfl:args=#[d,x]:=Array.ext' hx
     obtain rfl:argTypes=#[t,t']:=Array.ext' ht0
     simp [Op.operands,Call.operands] at hok
     split at hc
     ·rename_i e ht
      split at hc
      ·rename_i hz
       simp at hc;subst hc
       obtain ⟨w',q1,q2,q3,q4⟩:=run_iCopy (tt:=t') (type:=o.type) H ht hz hi (hg d hok.1) (hg x hok.2)
       exact Done.val (v':=v) (w':=w') (by simp [execOp,ho,resolve,invoke,builtin,q1]) q2 q3 q4
      ·cases hc
     ·cases hc
    ·cases hc
   | delete=>
    simp only [compE] at hc
    split at hc
    ·rename_i m k t hx ht0
     obtain rfl:args=#[m,k]:=Array.ext' hx
     simp [Op.operands,Call.operands] at hok
     simp only [Option.map_eq_some_iff] at hc
     obtain ⟨g,hgk,rfl⟩:=hc
     simp only [ieff,Option.map_eq_some_iff,Prod.mk.injEq] at hi
     obtain ⟨h'',hi,rfl,rfl⟩:=hi
     obtain ⟨w',q1,q2,q3⟩:=run_iDelG (ty:=o.type) H ht0 hgk hi (hg m hok.1) (hg k hok.2)
     exact Done.val (v':=.tuple #[]) (w':=w') (by simp [execOp,ho,resolve,invoke,builtin,q1]) (VRel.undef _) q2 q3
    ·cases hc
   | _=>simp [compE] at hc
  | _=>simp [compE] at hc
 | panic x=>rw [ho] at hc;simp [compE] at hc;subst hc;simp [ieff] at hi
 | makeInterface t x=>rw [ho] at hc;simp [compE] at hc;subst hc;simp [ieff] at hi
 | _=>rw [ho] at hc;simp [compE] at hc

end
end Go.Sim


namespace Go.Sim

inductive IOp where
 | p (o:POp)
 | l (o:LOp)
 | e (o:EOp)
 | call (f:FuncId) (args:List Operand)
 | callv (x:Operand) (args:List Operand)

structure IOper where
 dst:Option Nat
 op:IOp
 guard:Option (Nat×Bool)

structure GOper where
 dst:Option Nat
 op:IOp

structure DOper where
 op:IOper
 pre:Nat

structure GDOper where
 dst:Option Nat
 op:IOp
 pre:Nat

inductive ICode where
 | skip
 | dops (l:List (Option (Nat×Bool)×List GDOper))
 | ops (g:Option (Nat×Bool)) (l:List GOper)
 | seq (a b:ICode)
 | cut (ls:List Nat) (c:ICode)
 | cond (c:Operand) (a b:ICode)
 | block (id:Nat) (c:ICode)
 | loop (ks ls:List Nat) (c:ICode)
 | exit (id:Nat)
 | ret
 | range (g:Operand) (ls:List Nat) (c:LoopC)

abbrev FR (R:Option Nat):Fence:={ Fence.wide with round:=R }

def ICall (P:Program) (F:FuncId) (args:List Value) (h:Heap) (v:Value) (h':Heap):Prop:=
 ∀(ρ:RMap) (args':Array Value) (w:World),VsRel ρ args args'.toList→HRel P ρ h w→
  Calls P F args' w fun e w'=>∃v' ρ',e=.returned v'∧VRel ρ' v v'∧HRel P ρ' h' w'∧Tr ρ h w ρ' h' w'

def icall (P:Program) (F:FuncId) (args:List Value) (h:Heap) (K:Value→Heap→Prop):Prop:=∃v h',ICall P F args h v h'∧K v h'

theorem icall.mono {P:Program} {F:FuncId} {args:List Value} {h:Heap} {K K':Value→Heap→Prop} (hc:icall P F args h K) (hk:∀v h',K v h'→K' v h'):icall P F args h K':=
 let ⟨v,h',a,b⟩:=hc;⟨v,h',a,hk v h' b⟩

def IYield (P:Program) (i:Nat) (args:List Value) (h:Heap) (v:Value) (h':Heap):Prop:=
 ∀(ρ:RMap) (r:RI) (args':Array Value) (w:World),ρ i=some r→VsRel ρ args args'.toList→HRel P ρ h w→
  ∃fn tmps asg body,(Instr.yield r.blk args').run P w=.ok (.round r.blk fn tmps asg body) w∧
   RoundIn Fence.wide 0 P r.blk fn tmps asg body w fun e w'=>∃v' ρ',e=.returned v'∧VRel ρ' v v'∧HRel P ρ' h' w'∧Tr ρ h w ρ' h' w'

def iyield (P:Program) (i:Nat) (args:List Value) (h:Heap) (K:Value→Heap→Prop):Prop:=∃v h',IYield P i args h v h'∧K v h'

theorem iyield.mono {P:Program} {i:Nat} {args:List Value} {h:Heap} {K K':Value→Heap→Prop} (hc:iyield P i args h K) (hk:∀v h',K v h'→K' v h'):iyield P i args h K':=
 let ⟨v,h',a,b⟩:=hc;⟨v,h',a,hk v h' b⟩

def callOk (P:Program) (f:FuncId):Bool:=
 match P.funcs[f]? with
 | some fn=>fn.name != "runtime.NumGoroutine" &&fn.body.isSome
 | none=>false

def oletP (o:Option Value) (K:Value→Prop):Prop:=
 match o with
 | some v=>K v
 | none=>False

def oletH (o:Option (Value×Heap)) (K:Value→Heap→Prop):Prop:=
 match o with
 | some (v,h')=>K v h'
 | none=>False

def callV (P:Program) (x:Value) (args:List Value) (h:Heap) (K:Value→Heap→Prop):Prop:=
 match x with
 | .func (.func g) first cap=>callOk P g=true∧icall P g (first.toList++args++cap.toList) h K
 | .func (.yield i) first cap=>(first=#[]∧cap=#[])∧iyield P i args h K
 | _=>False

def rangeK (P:Program) (g:Value) (ls:List Nat) (vs:List Value) (c:LoopC) (h:Heap) (K:Heap→Prop):Prop:=
 match g with
 | .func (.func F) first cap=>callOk P F=true∧icall P F (first.toList++[.func (.yield h.length) #[] #[]]++cap.toList) (h++[.loop c ls vs]) fun _ h'=>
   (∃c' ls' vs',h'[h.length]?=some (.loop c' ls' vs'))∧K (h'.set h.length .dead)
 | _=>False

def stepK (P:Program) (o:IOp) (f:Nat→Value) (h:Heap) (K:Value→Heap→Prop):Prop:=
 match o with
 | .p o=>oletP (ipure o (ev f)) fun v=>K v h
 | .l o=>oletP (iload o (ev f) h) fun v=>K v h
 | .e o=>oletH (ieff o (ev f) h) K
 | .call g args=>icall P g (args.map (ev f)) h K
 | .callv x args=>callV P (ev f x) (args.map (ev f)) h K

def isB (v:Value) (b:Bool):Bool:=
 match v with
 | .bool c=>c==b
 | _=>false

def isBot:Value→Bool
 | .complex _ _ _=>true
 | _=>false

def wantB (g:Option (Nat×Bool)) (f:Nat→Value):Bool:=
 match g with
 | none=>true
 | some (s,b)=>isB (f s) b

def guardK (v:Value) (b:Bool) (A B:Prop):Prop:=
 match v with
 | .bool c=>if (c==b)=true then A else B
 | .complex _ _ _=>False
 | _=>B

def updO (f:Nat→Value) (d:Option Nat) (v:Value):Nat→Value:=
 match d with
 | some d=>upd f d v
 | none=>f

def iops (P:Program):List IOper→((Nat→Value)→Heap→Prop)→(Nat→Value)→Heap→Prop
 | [],K,f,h=>K f h
 | o::os,K,f,h=>
  match o.guard with
  | none=>stepK P o.op f h fun v h'=>iops P os K (updO f o.dst v) h'
  | some (s,b)=>guardK (f s) b (stepK P o.op f h fun v h'=>iops P os K (updO f o.dst v) h') (iops P os K (updO f o.dst undef) h)

def gops (P:Program):List GOper→((Nat→Value)→Heap→Prop)→(Nat→Value)→Heap→Prop
 | [],K,f,h=>K f h
 | o::os,K,f,h=>stepK P o.op f h fun v h'=>gops P os K (updO f o.dst v) h'

def undefs:List GOper→(Nat→Value)→(Nat→Value)
 | [],f=>f
 | o::os,f=>undefs os (updO f o.dst undef)

def opsK (P:Program) (g:Option (Nat×Bool)) (l:List GOper) (K:(Nat→Value)→Heap→Prop) (f:Nat→Value) (h:Heap):Prop:=
 match g with
 | none=>gops P l K f h
 | some (s,b)=>guardK (f s) b (gops P l K f h) (K (undefs l f) h)

def IOp.isE:IOp→Bool
 | .p _=>false
 | .l _=>false
 | _=>true

abbrev Loads:=List (Nat×LOp×(Nat→Value)×Value)

def chkPast (pre:Nat) (lo:LOp) (f:Nat→Value) (v:Value):List (Nat×Heap)→Prop
 | []=>True
 | (e,H)::r=>if pre.testBit e=true then chkPast pre lo f v r else iload lo (ev f) H=some v∧chkPast pre lo f v r

def chkFut (pre:Nat) (H:Heap):Loads→Prop
 | []=>True
 | (j,lo,f,v)::r=>if pre.testBit j=true then chkFut pre H r else iload lo (ev f) H=some v∧chkFut pre H r

def dwant (P:Program) (io:IOp) (pre j:Nat) (heaps:List (Nat×Heap)) (loads:Loads) (f:Nat→Value) (h:Heap) (next:List (Nat×Heap)→Loads→Value→Heap→Prop):Prop:=
 match io with
 | .p po=>oletP (ipure po (ev f)) fun v=>next heaps loads v h
 | .l lo=>oletP (iload lo (ev f) h) fun v=>chkPast pre lo f v heaps∧next heaps (loads++[(j,lo,f,v)]) v h
 | .e (.fl a)=>oletH (ieff (.fl a) (ev f) h) fun v h'=>oletP (iObj h' v) fun u=>chkFut pre h' loads∧next (heaps++[(j,h)]) (loads++[(j,.obj (.const v),f,u)]) v h'
 | .e eo=>oletH (ieff eo (ev f) h) fun v h'=>chkFut pre h' loads∧next (heaps++[(j,h)]) loads v h'
 | .call g args=>icall P g (args.map (ev f)) h fun v h'=>chkFut pre h' loads∧next (heaps++[(j,h)]) loads v h'
 | .callv x args=>callV P (ev f x) (args.map (ev f)) h fun v h'=>chkFut pre h' loads∧next (heaps++[(j,h)]) loads v h'

def dskip (io:IOp) (pre j:Nat) (heaps:List (Nat×Heap)) (loads:Loads) (h:Heap) (next:List (Nat×Heap)→Loads→Value→Heap→Prop):Prop:=
 match io.isE with
 | false=>next heaps loads undef h
 | true=>chkFut pre h loads∧next (heaps++[(j,h)]) loads undef h

def idops (P:Program):List DOper→Nat→List (Nat×Heap)→Loads→((Nat→Value)→Heap→Prop)→(Nat→Value)→Heap→Prop
 | [],_,_,_,K,f,h=>K f h
 | o::os,j,heaps,loads,K,f,h=>
  match o.op.guard with
  | none=>dwant P o.op.op o.pre j heaps loads f h fun heaps loads v h'=>idops P os (j+1) heaps loads K (updO f o.op.dst v) h'
  | some (s,b)=>
   guardK (f s) b (dwant P o.op.op o.pre j heaps loads f h fun heaps loads v h'=>idops P os (j+1) heaps loads K (updO f o.op.dst v) h')
    (dskip o.op.op o.pre j heaps loads h fun heaps loads v h'=>idops P os (j+1) heaps loads K (updO f o.op.dst v) h')

def gdrun (P:Program):List GDOper→Nat→List (Nat×Heap)→Loads→(List (Nat×Heap)→Loads→(Nat→Value)→Heap→Prop)→(Nat→Value)→Heap→Prop
 | [],_,heaps,loads,K,f,h=>K heaps loads f h
 | o::os,j,heaps,loads,K,f,h=>dwant P o.op o.pre j heaps loads f h fun heaps loads v h'=>gdrun P os (j+1) heaps loads K (updO f o.dst v) h'

def gdskip:List GDOper→Nat→List (Nat×Heap)→Loads→(List (Nat×Heap)→Loads→(Nat→Value)→Heap→Prop)→(Nat→Value)→Heap→Prop
 | [],_,heaps,loads,K,f,h=>K heaps loads f h
 | o::os,j,heaps,loads,K,f,h=>dskip o.op o.pre j heaps loads h fun heaps loads v h'=>gdskip os (j+1) heaps loads K (updO f o.dst v) h'

def gdops (P:Program):List (Option (Nat×Bool)×List GDOper)→Nat→List (Nat×Heap)→Loads→((Nat→Value)→Heap→Prop)→(Nat→Value)→Heap→Prop
 | [],_,_,_,K,f,h=>K f h
 | (none,l)::gs,j,heaps,loads,K,f,h=>gdrun P l j heaps loads (fun heaps loads f h=>gdops P gs (j+l.length) heaps loads K f h) f h
 | (some (s,b),l)::gs,j,heaps,loads,K,f,h=>
  guardK (f s) b (gdrun P l j heaps loads (fun heaps loads f h=>gdops P gs (j+l.length) heaps loads K f h) f h)
   (gdskip l j heaps loads (fun heaps loads f h=>gdops P gs (j+l.length) heaps loads K f h) f h)

def thenK (next:(Nat→Value)→Heap→Prop) (K:Exit→(Nat→Value)→Heap→Prop):Exit→(Nat→Value)→Heap→Prop
 | .normal,f,h=>next f h
 | e,f,h=>K e f h

def inBlockK (id:Nat) (K:Exit→(Nat→Value)→Heap→Prop):Exit→(Nat→Value)→Heap→Prop
 | .exit i,f,h=>if i=id then K .normal f h else K (.exit i) f h
 | e,f,h=>K e f h

def condK (c:Value) (a b:Prop):Prop:=
 match c with
 | .bool t=>if t=true then a else b
 | _=>False

def cutK (Q:(Nat→Value)→Heap→Prop) (ls:List Nat) (vs:List Value) (h:Heap):Prop:=Q (ofl ls vs) h

def loopK (init:List Value) (h:Heap) (Q:(List Value→Heap→Prop)→List Value→Heap→Prop):Prop:=
 ∃(J:List Value→Heap→Prop) (μ:List Value→Heap→Nat),J init h∧∀(xs:List Value) (hx:Heap),J xs hx→Q (fun ys hy=>J ys hy∧μ ys hy<μ xs hx) xs hx

abbrev Kont:=Exit→(Nat→Value)→Heap→Prop

noncomputable def iwp (P:Program) (c:ICode):Kont→(Nat→Value)→Heap→Prop:=
 ICode.rec (motive:=fun _=>Kont→(Nat→Value)→Heap→Prop)
  (fun K f h=>K .normal f h)
  (fun l K f h=>gdops P l 0 [] [] (K .normal) f h)
  (fun g l K f h=>opsK P g l (K .normal) f h)
  (fun _ _ ia ib K f h=>ia (thenK (ib K) K) f h)
  (fun ls _ ic K f h=>cutK (ic K) ls (ls.map f) h)
  (fun c _ _ ia ib K f h=>condK (ev f c) (ia K f h) (ib K f h))
  (fun id _ ic K f h=>ic (inBlockK id K) f h)
  (fun ks ls _ ic K f h=>loopK (ls.map f) h fun L xs hx=>ic (thenK (fun f' h''=>ks.map f'=ks.map f∧L (ls.map f') h'') K) (ofl (ks++ls) (ks.map f++xs)) hx)
  (fun id K f h=>K (.exit id) f h)
  (fun K f h=>K .ret f h)
  (fun g ls c K f h=>rangeK P (ev f g) ls (ls.map f) c h (K .normal f)) c

theorem iwp_cond {P:Program} {c:Operand} {a b:ICode} {K:Kont} {f:Nat→Value} {h:Heap}:iwp P (.cond c a b) K f h=condK (ev f c) (iwp P a K f h) (iwp P b K f h):=rfl

def compOp (P:Program) (op:Op):Option IOp:=
 match compP P op with
 | some o=>some (.p o)
 | none=>match compL P op with
  | some o=>some (.l o)
  | none=>match compE P op with
   | some o=>some (.e o)
   | none=>match op with
    | .call { callee:=.value (.func f),args,.. }=>if callOk P f then some (.call f args.toList) else none
    | .call { callee:=.value x,args,.. }=>some (.callv x args.toList)
    | _=>none

def compGuard (N:Nat) (ops:Array Oper):Option (Nat×Bool)→Option (Option (Nat×Bool))
 | none=>some none
 | some (j,b)=>match (ops[j]?).bind (·.dst) with
  | some s=>if s<N then some (some (s,b)) else none
  | none=>none

def compOper (P:Program) (N:Nat) (ops:Array Oper) (o:Oper):Option IOper:=
 if o.op.operands.all opdOk&&o.dst.all (·<N) then
  match compOp P o.op,compGuard N ops o.guard with
  | some op,some g=>some ⟨o.dst,op,g⟩
  | _,_=>none
 else none

def compList (P:Program) (N:Nat) (ops:Array Oper):List Oper→Option (List IOper)
 | []=>some []
 | o::os=>match compOper P N ops o,compList P N ops os with
  | some x,some xs=>some (x::xs)
  | _,_=>none

def POp.opds:POp→List Operand
 | .mv x | .un _ x | .conv _ x | .sid x | .lenS x | .lenSl x | .fadr _ x | .fld _ _ _ x | .nilck x | .ext x _=>[x]
 | .pick c a b=>[c,a,b]
 | .bin _ x y | .eqb _ x y | .eqnil _ x y | .idxS x y | .idxA _ _ _ x y | .adrSl _ x y | .adrArr _ _ x y=>[x,y]
 | .lenArr _=>[]
 | .minmax _ xs=>xs
 | .slS x lo hi=>x::(lo.toList++hi.toList)
 | .slSl _ _ x lo hi=>x::(lo.toList++hi.toList)
 | .fn _ first captured=>first++captured
 | .build _ parts=>parts.map (·.2.2)
 | .idxB f x c=>[.func f,x,c]

def LOp.opds:LOp→List Operand
 | .load _ _ a=>[a]
 | .b2s x=>[x]
 | .lookup _ _ m k=>[m,k]
 | .lookupI _ _ _ m k=>[m,k]
 | .lookupG _ _ _ m k=>[m,k]
 | .entry it=>[it]
 | .obj x=>[x]

def AOp.opds:AOp→List Operand
 | .alloc _ _=>[]
 | .mkSl _ _ _ parts=>parts.map (·.2.2)
 | .make _ _ _ l c=>[l,c]
 | .mkMapG _=>[]

def EOp.opds:EOp→List Operand
 | .fl a=>a.opds
 | .store _ a v=>[a,v]
 | .box _ x=>[x]
 | .alloc _ _=>[]
 | .mkSl _ _ _ parts=>parts.map (·.2.2)
 | .make _ _ _ l c=>[l,c]
 | .app _ _ _ s x=>[s,x]
 | .mkMap=>[]
 | .mkMapI _=>[]
 | .die=>[]
 | .mkMapG _=>[]
 | .mupdG _ m k v=>[m,k,v]
 | .delG _ m k=>[m,k]
 | .rangeG x=>[x]
 | .next it=>[it]
 | .mupdI _ m k v=>[m,k,v]
 | .mupd m k v=>[m,k,v]
 | .copy d s=>[d,s]

def IOp.opds:IOp→List Operand
 | .p o=>o.opds
 | .l o=>o.opds
 | .e o=>o.opds
 | .call _ args=>args
 | .callv x args=>x::args

def tmpsOf:List Operand→List Nat
 | []=>[]
 | .tmp t::xs=>t::tmpsOf xs
 | _::xs=>tmpsOf xs

def IOper.reads (o:IOper):List Nat:=(match o.guard with | some (s,_)=>[s] | none=>[])++tmpsOf o.op.opds

def preOf (pres:List Nat):List Nat→Nat
 | []=>0
 | e::es=>(2^e ||| pres.getD e 0) ||| preOf pres es

def calcPre:List (List Nat)→List Nat→List Nat
 | [],acc=>acc
 | es::r,acc=>calcPre r (acc++[preOf acc es])

def touches (o:DOper) (t:Nat):Bool:=o.op.dst==some t||o.op.reads.contains t

def pairOk (oj:DOper) (j:Nat) (oi:DOper) (i:Nat):Bool:=
 (i==j||(match oi.op.dst with
  | none=>true
  | some t=> !touches oj t||(if i<j then oj.pre.testBit i else oi.pre.testBit j)))&&
 (!(decide (i<j)&&oi.op.op.isE&&oj.op.op.isE)||oj.pre.testBit i)

def pairsOk (l:List DOper):Bool:=l.zipIdx.all fun (oj,j)=>l.zipIdx.all fun (oi,i)=>pairOk oj j oi i

def edgesOf (o:Oper):List Nat:=o.after.toList.filterMap fun e=>if Region.binds .any e then some e.on else none

def backOk (ops:List Oper):Nat→Bool
 | i=>match ops with
  | []=>true
  | o::os=>(edgesOf o).all (·<i)&&backOk os (i+1)

def zipD:List IOper→List Nat→List DOper
 | o::os,p::ps=>⟨o,p⟩::zipD os ps
 | _,_=>[]

def compD (P:Program) (N:Nat) (ops:Array Oper):Option (List DOper):=
 match compList P N ops ops.toList with
 | some ios=>
  if P.follows .mixedOrders&&backOk ops.toList 0&&pairsOk (zipD ios (calcPre (ops.toList.map edgesOf) [])) then some (zipD ios (calcPre (ops.toList.map edgesOf) [])) else none
 | none=>none


def isFl (o:DOper):Bool:=match o.op.op with | .e (.fl _)=>true | _=>false

def floatsOf (l:List DOper):List Nat:=
 l.zipIdx.filterMap fun (oi,i)=>
  if (match oi.op.op with | .e eo=>eo.toA.isSome | _=>false)&&oi.op.guard.isNone&&(l.zipIdx.any fun (oj,j)=>j != i&&oj.op.op.isE&& !(oi.pre.testBit j)&& !(oj.pre.testBit i)) then some i else none

def flagF (o:IOper):IOper:=
 match o.op,o.guard with
 | .e eo,none=>match eo.toA with | some a=>⟨o.dst,.e (.fl a),none⟩ | none=>o
 | _,_=>o

def maskOf (pre:Nat):List Nat→Nat→Nat
 | [],_=>0
 | i::is,q=>(if pre.testBit i then 2^q else 0) ||| maskOf pre is (q+1)

def permF (l:List DOper) (fl:List Nat):List Nat:=
 let inD:=fun i=>fl.contains i||fl.any fun a=>((l[a]?).map fun o=>o.pre.testBit i).getD false
 (List.range l.length).filter inD++(List.range l.length).filter fun i=> !inD i

def laidF (l:List DOper) (fl perm:List Nat):List DOper:=
 perm.filterMap fun i=>(l[i]?).map fun o=>⟨if fl.contains i then flagF o.op else o.op,maskOf o.pre perm 0⟩

def distinctN:List Nat→Bool
 | []=>true
 | x::xs=> !(xs.contains x)&&distinctN xs

def pairOkF (oj:DOper) (j:Nat) (oi:DOper) (i:Nat):Bool:=
 (i==j||(match oi.op.dst with
  | none=>true
  | some t=> !touches oj t||(if i<j then oj.pre.testBit i else oi.pre.testBit j)))&&
 (!(decide (i<j)&&oi.op.op.isE&&oj.op.op.isE&& !(isFl oi)&& !(isFl oj))||oj.pre.testBit i)

def headF (l:List DOper):Nat:=l.length-((l.reverse.takeWhile fun o=> !(isFl o)).length)

def okF (l:List DOper) (perm:List Nat) (pres:List Nat):Bool:=
 l.length==pres.length&&perm.length==pres.length&&distinctN perm&&perm.all (·<pres.length)&&
 (l.zipIdx.all fun (oj,j)=>l.zipIdx.all fun (oi,i)=>pairOkF oj j oi i)&&
 (l.zipIdx.all fun (o,q)=>if q<headF l then !(o.op.op.isE)||isFl o else !(isFl o))&&
 (l.zipIdx.all fun (o,q)=>(List.range pres.length).all fun k=>o.pre.testBit k==(pres.getD (perm.getD q 0) 0).testBit (perm.getD k 0))&&
 (l.zipIdx.all fun (o,_)=> !(isFl o)||o.op.guard.isNone)

def compF (P:Program) (N:Nat) (ops:Array Oper):Option (List DOper×List Nat):=
 match compList P N ops ops.toList with
 | some ios=>
  let pres:=calcPre (ops.toList.map edgesOf) []
  let l:=zipD ios pres
  let fl:=floatsOf l
  let perm:=permF l fl
  let l':=laidF l fl perm
  if P.follows .mixedOrders&&backOk ops.toList 0&&okF l' perm pres then some (l',perm) else none
 | none=>none

def compDF (P:Program) (N:Nat) (ops:Array Oper):Option (List DOper):=
 match compD P N ops with
 | some l=>some l
 | none=>(compF P N ops).map Prod.fst

def groupsOf:List IOper→List (Option (Nat×Bool)×List GOper)
 | []=>[]
 | o::os=>match groupsOf os with
  | (g,l)::gs=>if o.guard=g then (g,⟨o.dst,o.op⟩::l)::gs else (o.guard,[⟨o.dst,o.op⟩])::(g,l)::gs
  | []=>[(o.guard,[⟨o.dst,o.op⟩])]

def leaves (g:Option (Nat×Bool)) (d:Option Nat):Bool:=
 match g with
 | some (s,_)=>d != some s
 | none=>true

def dgroupsOf:List DOper→List (Option (Nat×Bool)×List GDOper)
 | []=>[]
 | o::os=>match dgroupsOf os with
  | (g,l)::gs=>if o.op.guard=g then (g,⟨o.op.dst,o.op.op,o.pre⟩::l)::gs else (o.op.guard,[⟨o.op.dst,o.op.op,o.pre⟩])::(g,l)::gs
  | []=>[(o.op.guard,[⟨o.op.dst,o.op.op,o.pre⟩])]

abbrev Hints:=List (List Nat)

def cutO (ls:List Nat) (c:ICode):ICode:=
 match ls with
 | []=>c
 | l::ls=>.cut (l::ls) c

def rcode:List (Option (Nat×Bool)×List GOper)→Hints→ICode×Hints
 | [],hs=>(.skip,hs)
 | (g,l)::gs,hs=>
  match gs,hs with
  | [],hs=>(.ops g l,hs)
  | gs,h::hs=>let r:=rcode gs hs;(.seq (.ops g l) (cutO h r.1),r.2)
  | gs,[]=>let r:=rcode gs [];(.seq (.ops g l) r.1,r.2)

def compCode (P:Program) (N:Nat):Code→Hints→Option (ICode×Hints)
 | .skip,hs=>some (.skip,hs)
 | .region _ ops false,hs=>
  match compList P N ops ops.toList with
  | some l=>if l.all fun o=>leaves o.guard o.dst then some (rcode (groupsOf l) hs) else none
  | none=>some (.ops none [⟨none,.e .die⟩],hs)
 | .region _ ops true,hs=>
  match compDF P N ops with
  | some l=>if l.all fun o=>leaves o.op.guard o.op.dst then some (.dops (dgroupsOf l),hs) else none
  | none=>none
 | .seq a b,hs=>
  match compCode P N a hs with
  | some (x,h::hs)=>match compCode P N b hs with
   | some (y,hs)=>some (.seq x (cutO h y),hs)
   | none=>none
  | some (x,[])=>match compCode P N b [] with
   | some (y,hs)=>some (.seq x y,hs)
   | none=>none
  | none=>none
 | .cond c a b,hs=>if opdOk c then match compCode P N a hs with
  | some (x,hs)=>match compCode P N b hs with
   | some (y,hs)=>some (.cond c x y,hs)
   | none=>none
  | none=>none
  else none
 | .block id c,hs=>match compCode P N c hs with
  | some (x,hs)=>some (.block id x,hs)
  | none=>none
 | .loop c,hs=>
  match hs with
  | ks::ls::hs=>match compCode P N c hs with
   | some (x,hs)=>some (.loop ks ls x,hs)
   | none=>none
  | _=>none
 | .exit id,hs=>some (.exit id,hs)
 | .ret,hs=>some (.ret,hs)
 | .rangeFunc g ps asg body,hs=>
  match hs with
  | ls::hs=>if opdOk g&&ps.all (·<N) then some (.range g ls ⟨N,ps,asg,body⟩,hs) else none
  | []=>none
 | _,_=>none

def noRange:Code→Bool
 | .seq a b=>noRange a&&noRange b
 | .cond _ a b=>noRange a&&noRange b
 | .block _ c=>noRange c
 | .loop c=>noRange c
 | .rangeFunc .. =>false
 | _=>true

section
variable {P : Program} {N : Nat}

def Post (P:Program) (N B:Nat) (ρ:RMap) (h:Heap) (w:World) (e:Exit) (f':Nat→Value) (h':Heap):Exit→Act→World→Prop:=
 fun e' a' w'=>e'=e∧∃ρ',Rel P N B ρ' f' h' a' w'∧Tr ρ h w ρ' h' w'

def Run (P:Program) (N:Nat) (out:Bool) (c:Code) (f:Nat→Value) (h:Heap) (e:Exit) (f':Nat→Value) (h':Heap):Prop:=
 ∀R,(out=true→R=none)→∀B ρ a w,Rel P N B ρ f h a w→c.wpIn (FR R) 0 P (Post P N B ρ h w e f' h') a w

def OpStep (P:Program) (N:Nat) (o:Oper) (f:Nat→Value) (h:Heap) (v:Value) (h':Heap):Prop:=
 ∀R B ρ a w,Rel P N B ρ f h a w→∀(next:Act→World→Prop) (Q:Exit→Act→World→Prop),
  (∀ρ' v' w',VRel ρ' v v'→HRel P ρ' h' w'→Tr ρ h w ρ' h' w'→next (a.put o.dst v') w')→o.wpIn (FR R) 0 P a w next Q

theorem semAt_any {o:Oper} (hn:∀c,o.op≠ .defer c) (R:Option Nat) (g:Operand→Value):o.semAt R g=execOp g o:=by
 cases R with
 | none=>rfl
 | some l=>exact Oper.semAt_some l g o hn

theorem wpIn_val {R:Option Nat} {o:Oper} {a:Act} {w w':World} {next:Act→World→Prop} {Q:Exit→Act→World→Prop} {v:Value} (hn:∀c,o.op≠ .defer c)
  (he:(execOp a.eval o).run P w=.ok (.value v) w') (hk:next (a.put o.dst v) w'):o.wpIn (FR R) 0 P a w next Q:=by
 refine ⟨fun _ _=>trivial,?_⟩
 rw [semAt_any hn,he,Oper.uponIn_value]
 exact hk

theorem wpIn_skip' {R:Option Nat} {o:Oper} {a:Act} {w w':World} {next:Act→World→Prop} {Q:Exit→Act→World→Prop} (hn:∀c,o.op≠ .defer c)
  (he:(execOp a.eval o).run P w=.ok .skip w') (hk:next (a.put o.dst undef) w'):o.wpIn (FR R) 0 P a w next Q:=by
 refine ⟨fun _ _=>trivial,?_⟩
 rw [semAt_any hn,he,Oper.uponIn_skip]
 exact hk

theorem calls_fr {f:FuncId} {args:Array Value} {w:World} {K:Ending→World→Prop} (h:Calls P f args w K) (R:Option Nat) (n:Nat):CallsIn (FR R) n P f args w K:=by
 cases R with
 | none=>exact callsIn_wide.2 h
 | some l=>exact (callsIn_wide (n:=n)).2 h

theorem round_fr {l:Nat} {f:FuncId} {tmps:Array Value} {asg body:Code} {w:World} {K:Ending→World→Prop} (h:RoundIn Fence.wide 0 P l f tmps asg body w K) (R:Option Nat):
  RoundIn (FR R) 0 P l f tmps asg body w K:=h

theorem callFunc_ok {f:FuncId} (h:callOk P f=true) (args:Array Value) (w:World):(callFunc f args).run P w=.ok (.enter f args) w:=by
 unfold callOk at h
 split at h
 ·rename_i fn hf
  simp only [Bool.and_eq_true,bne_iff_ne] at h
  obtain ⟨h1,h2⟩:=h
  have h3:fn.body≠none:=by
   intro hb
   simp [hb] at h2
  simp [callFunc,hf,h1,h3]
 ·cases h

theorem opStep_enter {o:Oper} {f:Nat→Value} {h:Heap} {g:FuncId} {args:List Value} {v:Value} {h':Heap} (hc:ICall P g args h v h')
  (hd:∀c,o.op≠ .defer c)
  (he:∀B ρ a w,Rel P N B ρ f h a w→∃args':Array Value,VsRel ρ args args'.toList∧(execOp a.eval o).run P w=.ok (.enter g args') w):OpStep P N o f h v h':=by
 intro r B ρ a w R next Q hn
 obtain ⟨args',hv,hr⟩:=he B ρ a w R
 refine ⟨fun _ _=>trivial,?_⟩
 rw [semAt_any hd,hr,Oper.uponIn_enter]
 refine ⟨fun h=>(by cases h),?_⟩
 refine (calls_fr (hc ρ args' w hv R.heap) r _).mono ?_
 rintro e w' ⟨v',ρ',rfl,h1,h2,h3⟩
 exact hn ρ' v' w' h1 h2 h3

theorem opStep_round {o:Oper} {f:Nat→Value} {h:Heap} {i:Nat} {args:List Value} {v:Value} {h':Heap} (hc:IYield P i args h v h')
  (hd:∀c,o.op≠ .defer c)
  (he:∀B ρ a w,Rel P N B ρ f h a w→∃(r:RI) (args':Array Value),ρ i=some r∧VsRel ρ args args'.toList∧(execOp a.eval o).run P w=(Instr.yield r.blk args').run P w):OpStep P N o f h v h':=by
 intro R' B ρ a w R next Q hn
 obtain ⟨r,args',hi,hv,hr⟩:=he B ρ a w R
 obtain ⟨fn,tmps,asg,body,e1,e2⟩:=hc ρ r args' w hi hv R.heap
 refine ⟨fun _ _=>trivial,?_⟩
 rw [semAt_any hd,hr,e1,Oper.uponIn_round]
 refine ⟨fun h=>(by cases h),?_⟩
 refine (round_fr e2 R').mono ?_
 rintro e w' ⟨v',ρ',rfl,h1,h2,h3⟩
 exact hn ρ' v' w' h1 h2 h3

theorem compOp_nd {op:Op} {io:IOp} (h:compOp P op=some io):∀c,op≠ .defer c:=by
 rintro c rfl
 simp [compOp,compP,compL,compE] at h

theorem compOp_inv {op:Op} {io:IOp} (h:compOp P op=some io):(∃o,io=.p o∧compP P op=some o)∨(∃o,io=.l o∧compL P op=some o)∨(∃o,io=.e o∧compE P op=some o)∨
  (∃f args at_,op=.call ⟨.value (.func f),args,at_⟩∧callOk P f=true∧io=.call f args.toList)∨(∃x args at_,op=.call ⟨.value x,args,at_⟩∧io=.callv x args.toList):=by
 unfold compOp at h
 split at h
 ·rename_i o ho;simp at h;exact .inl ⟨o,h.symm,ho⟩
 ·split at h
  ·rename_i o ho;simp at h;exact .inr (.inl ⟨o,h.symm,ho⟩)
  ·split at h
   ·rename_i o ho;simp at h;exact .inr (.inr (.inl ⟨o,h.symm,ho⟩))
   ·split at h
    ·split at h
     ·rename_i hc;simp at h;exact .inr (.inr (.inr (.inl ⟨_,_,_,rfl,hc,h.symm⟩)))
     ·cases h
    ·simp at h;exact .inr (.inr (.inr (.inr ⟨_,_,_,rfl,h.symm⟩)))
    ·cases h

theorem opStep_of {o:Oper} {io:IOp} {f:Nat→Value} {h:Heap} {K:Value→Heap→Prop} (hc:compOp P o.op=some io) (hok:o.op.operands.all opdOk=true) (hs:stepK P io f h K):
  ∃v h',OpStep P N o f h v h'∧K v h':=by
 have hnd:=compOp_nd hc
 rcases compOp_inv hc with ⟨po,rfl,hp⟩ | ⟨lo,rfl,hl⟩ | ⟨eo,rfl,he⟩ | ⟨g,args,at_,ho,hco,rfl⟩ | ⟨x,args,at_,ho,rfl⟩
 ·simp only [stepK,oletP] at hs
  split at hs
  ·rename_i v hv
   refine ⟨v,h,?_,hs⟩
   intro _ B ρ a w R next Q hn
   obtain ⟨v',h1,h2⟩:=pure_sound w hp hok R.heap.esz (fun x hx=>R.ev hx) hv
   exact wpIn_val hnd h1 (hn ρ v' w h2 R.heap (Tr.refl R.heap))
  ·exact hs.elim
 ·simp only [stepK,oletP] at hs
  split at hs
  ·rename_i v hv
   refine ⟨v,h,?_,hs⟩
   intro _ B ρ a w R next Q hn
   obtain ⟨v',h1,h2⟩:=load_sound hl hok R.heap (fun x hx=>R.ev hx) hv
   exact wpIn_val hnd h1 (hn ρ v' w h2 R.heap (Tr.refl R.heap))
  ·exact hs.elim
 ·simp only [stepK,oletH] at hs
  split at hs
  ·rename_i v h' hv
   refine ⟨v,h',?_,hs⟩
   intro _ B ρ a w R next Q hn
   obtain ⟨nx,w',ρ',v',e1,e2,e3,e4,e5⟩:=eff_sound he hok R.heap (fun x hx=>R.ev hx) hv
   rcases e2 with rfl | ⟨rfl,rfl⟩
   ·exact wpIn_val hnd e1 (hn ρ' v' w' e3 e4 e5)
   ·exact wpIn_skip' hnd e1 (hn ρ' undef w' e3 e4 e5)
  ·exact hs.elim
 ·obtain ⟨v,h',hcall,hk⟩:=hs
  refine ⟨v,h',opStep_enter hcall hnd ?_,hk⟩
  intro B ρ a w R
  rw [ho] at hok
  simp [Op.operands,Call.operands] at hok
  refine ⟨args.map a.eval,by simpa using VsRel.map_ev (fun x hx=>R.ev hx) (xs:=args.toList) (by simpa using hok.2),?_⟩
  simp [execOp,ho,resolve,Act.eval,Deferred.ofValue,invoke,callFunc_ok hco]
 ·simp only [stepK,callV] at hs
  rw [ho] at hok
  simp [Op.operands,Call.operands] at hok
  split at hs
  ·rename_i g first cap hx
   obtain ⟨hco,v,h',hcall,hk⟩:=hs
   refine ⟨v,h',opStep_enter hcall hnd ?_,hk⟩
   intro B ρ a w R
   have hr:=R.ev (x:=x) hok.1
   rw [hx] at hr
   generalize hy:a.eval x=y at hr
   cases hr with
   | func _ s1 s2 r1 r2=>
    rename_i first' cap'
    refine ⟨first'++args.map a.eval++cap',?_,?_⟩
    ·have q1:=VsRel.toArr s1 r1
     have q2:=VsRel.map_ev (fun x hx=>R.ev hx) (xs:=args.toList) (by simpa using hok.2)
     have q3:=VsRel.toArr s2 r2
     simpa using (q1.append q2).append q3
    ·simp [execOp,ho,resolve,hy,Deferred.ofValue,invoke,callFunc_ok hco]
  ·rename_i i first cap hx
   obtain ⟨⟨rfl,rfl⟩,v,h',hcall,hk⟩:=hs
   refine ⟨v,h',opStep_round hcall hnd ?_,hk⟩
   intro B ρ a w R
   have hr:=R.ev (x:=x) hok.1
   rw [hx] at hr
   generalize hy:a.eval x=y at hr
   cases hr with
   | yield hi=>
    rename_i r
    refine ⟨r,args.map a.eval,hi,by simpa using VsRel.map_ev (fun x hx=>R.ev hx) (xs:=args.toList) (by simpa using hok.2),?_⟩
    simp [execOp,ho,resolve,hy,Deferred.ofValue,invoke]
  ·exact hs.elim

end
end Go.Sim

