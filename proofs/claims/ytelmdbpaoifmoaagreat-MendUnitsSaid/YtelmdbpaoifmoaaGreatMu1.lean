/-
  Part 1 of the texts behind a statement of this seat: Sim1, Sim2, Sim3, Sim4, Sim5, Sim6, Sim7, Sim8, Sim7d, Sim9, Sim9g, Sim10, Sim11, Sim12, Sim13, Sim14.
-/
import Derived.WalkKit
import Derived.Laws.Append
import Derived.Laws.AppendOwn
import Derived.Laws.MakeOwn
import Derived.Laws.BytesString
import Derived.RangeFuncRecord
import Derived.Lib.Bytealg
import Derived.WalkSpells
import Derived.WideKeyArr
import Derived.MapKept
import Derived.Laws.CopyRow
import Derived.Laws.IdiomCopy
open Array (ext' getElem?_eq_getElem getElem?_toList)
open Bool (and_eq_true)
open List (all_eq_true getElem?_append_left getElem?_set_ne mem_of_getElem?)
open Nat (add_mul le_refl le_trans zero_add)
open Option (bind_eq_some_iff map_eq_some_iff)
namespace Go.Sim
section
theorem aU {p : Prop} [Decidable p] (h : ¬p) : decide p = false := decide_eq_false h
theorem aZ {p : Prop} [Decidable p] (h : p) : decide p = true := decide_eq_true h
theorem bL {n m : Nat} (h : Nat.ble n m = true) : n ≤ m := Nat.le_of_ble_eq_true h
theorem bD {α : Type} {l : List α} {i : Nat} {a : α} (h : l[i]? = some a) : ∃ h : i < l.length, l[i] = a := List.getElem?_eq_some_iff.1 h
structure RI where
 bz:Nat
 sh:Nat
 elem:TypeId
 aW:Nat
 size:Nat
abbrev aL:=Nat→Option RI
structure Di where
 N:Nat
 ps:Array Tmp
 kj:Code
 body:Code
inductive fR where
 | int (k:IntKind)
 | str
 | ints (n:Nat) (k:IntKind)
 deriving DecidableEq
def kr (k:IntKind):Value→Bool
 | .int k' _=>decide (k'=k)
 | _=>false
def EV (k:IntKind):Value→Bool
 | .int _ n=>decide (k.min≤n)&&decide (n≤k.max)
 | _=>false
def fc:fR→Value→Bool
 | .int k,v=>kr k v
 | .str,.string _=>true
 | .ints n k,.agg cs=>decide (cs.size=n)&&cs.toList.all fun v=>kr k v&&EV k v
 | _,_=>false
inductive aq where
 | ro (e:TypeId) (xs:List Value)
 | arr (e:TypeId) (xs:List Value)
 | smap (es:List (ByteArray×Value))
 | kQ (kd:IntKind) (es:List (Int×Value))
 | di (g:fR) (clock:Nat) (es:List (Nat×Value×Value))
 | iter (m kB:Nat) (seen:List Nat) (last:Nat)
 | loop (c:Di) (ls:List Nat) (vs:List Value)
 | dead
abbrev ae:=List aq
abbrev YY:Value:=.complex .f32 0 0
def kA:List Nat→List Value→Nat→Value
 | l::ls,v::vs,j=>match Nat.beq j l with | true=>v | false=>kA ls vs j
 | _,_,_=>YY
theorem azK (l:Nat) (ls:List Nat) (v:Value) (vs:List Value) (j:Nat):kA (l::ls) (v::vs) j=if j=l then v else kA ls vs j:=by
 show (match Nat.beq j l with | true=>v | false=>kA ls vs j)=_
 split
 ·rename_i h;rw [if_pos (Nat.eq_of_beq_eq_true h)]
 ·rename_i h;rw [if_neg (Nat.ne_of_beq_eq_false h)]
def gA:Value→Bool
 | .agg _ | .tuple _ | .complex _ _ _=>false
 | _=>true
inductive ax (ρ:aL):Value→Value→Prop
 | bool (b:Bool):ax ρ (.bool b) (.bool b)
 | int (k:IntKind) (n:Int):ax ρ (.int k n) (.int k n)
 | string (s:ByteArray):ax ρ (.string s) (.string s)
 | uC:ax ρ (.pointer none) (.pointer none)
 | rh:ax ρ (.slice none 0 0) (.slice none 0 0)
 | uB:ax ρ (.map none) (.map none)
 | nilFunc:ax ρ .nilFunc .nilFunc
 | nilIface:ax ρ .nilIface .nilIface
 | ptr {i o:Nat} {r:RI}:ρ i=some r→ax ρ (.pointer (some ⟨i,o,none⟩)) (.pointer (some ⟨r.bz,r.sh+o,none⟩))
 | slice {i o n o' c':Nat} {r:RI}:ρ i=some r→(o'=r.sh+o∨(n=0∧0<o∧c'=0))→n≤c'→c'≤maxLen→o'+c'*r.aW≤r.size→
   ax ρ (.slice (some ⟨i,o,some r.elem⟩) n n) (.slice (some ⟨r.bz,o',none⟩) n c')
 | void (a:Addr):ax ρ (.slice none 0 1) (.slice (some a) 0 0)
 | map {i:Nat} {r:RI}:ρ i=some r→ax ρ (.map (some i)) (.map (some r.bz))
 | func (f:FuncId) {xs ys xs' AQ:Array Value}:xs.size=xs'.size→ys.size=AQ.size→
   (∀(k:Nat) (x x':Value),xs[k]?=some x→xs'[k]?=some x'→ax ρ x x')→
   (∀(k:Nat) (x x':Value),ys[k]?=some x→AQ[k]?=some x'→ax ρ x x')→ax ρ (.func (.func f) xs ys) (.func (.func f) xs' AQ)
 | yield {i:Nat} {r:RI}:ρ i=some r→ax ρ (.func (.yield i) #[] #[]) (.func (.yield r.bz) #[] #[])
 | agg {xs xs':Array Value}:xs.size=xs'.size→(∀x∈xs.toList,gA x=true)→(∀(k:Nat) (x x':Value),xs[k]?=some x→xs'[k]?=some x'→ax ρ x x')→ax ρ (.agg xs) (.agg xs')
 | any (v:Value):ax ρ (.complex .f32 0 0) v
 | tuple {xs xs':Array Value}:xs.size=xs'.size→(∀(k:Nat) (x x':Value),xs[k]?=some x→xs'[k]?=some x'→ax ρ x x')→ax ρ (.tuple xs) (.tuple xs')
def aL.le (ρ av:aL):Prop:=∀i r,ρ i=some r→av i=some r
theorem aL.le.refl (ρ:aL):ρ.le ρ:=fun _ _ h=>h
theorem aL.le.trans {a b c:aL} (h:a.le b) (k:b.le c):a.le c:=fun i r e=>k i r (h i r e)
theorem ax.mono {ρ av:aL} (h:ρ.le av) {v v':Value} (hv:ax ρ v v'):ax av v v':=by
 induction hv with
 | bool b=>exact .bool b
 | int k n=>exact .int k n
 | string s=>exact .string s
 | uC=>exact .uC
 | rh=>exact .rh
 | uB=>exact .uB
 | nilFunc=>exact .nilFunc
 | nilIface=>exact .nilIface
 | ptr hi=>exact .ptr (h _ _ hi)
 | slice hi a b c d=>exact .slice (h _ _ hi) a b c d
 | void a=>exact .void a
 | map hi=>exact .map (h _ _ hi)
 | func f a b _ _ Ab Ca=>exact .func f a b (fun k x x' e e'=>Ab k x x' e e') (fun k x x' e e'=>Ca k x x' e e')
 | yield hi=>exact .yield (h _ _ hi)
 | agg a b _ ih=>exact .agg a b (fun k x x' e e'=>ih k x x' e e')
 | any v=>exact .any v
 | tuple a _ ih=>exact .tuple a (fun k x x' e e'=>ih k x x' e e')
theorem ax.undef (ρ:aL):ax ρ undef undef:=.tuple rfl (fun k x x' e e'=>by simp at e)
inductive bF (ρ:aL):List Value→List Value→Prop
 | nil:bF ρ [] []
 | cons {x y:Value} {xs ys:List Value}:ax ρ x y→bF ρ xs ys→bF ρ (x::xs) (y::ys)
theorem bF.mono {ρ av:aL} (h:ρ.le av) {xs ys:List Value} (hv:bF ρ xs ys):bF av xs ys:=by
 induction hv with
 | nil=>exact .nil
 | cons a _ ih=>exact .cons (a.mono h) ih
theorem bF.length {ρ:aL} {xs ys:List Value} (hv:bF ρ xs ys):xs.length=ys.length:=by
 induction hv with
 | nil=>rfl
 | cons _ _ ih=>simp [ih]
theorem bF.get {ρ:aL} {xs ys:List Value} (hv:bF ρ xs ys):∀{k:Nat} {x:Value},xs[k]?=some x→∃y,ys[k]?=some y∧ax ρ x y:=by
 induction hv with
 | nil=>intro k x h;simp at h
 | cons a _ ih=>
  intro k x h
  cases k with
  | zero=>simp at h;subst h;exact ⟨_,by simp,a⟩
  | succ k=>simp at h;obtain ⟨y,hy,hr⟩:=ih h;exact ⟨y,by simpa using hy,hr⟩
theorem bF.append {ρ:aL} {xs ys xs' AQ:List Value} (h:bF ρ xs ys) (h':bF ρ xs' AQ):bF ρ (xs++xs') (ys++AQ):=by
 induction h with
 | nil=>exact h'
 | cons a _ ih=>exact .cons a ih
theorem bF.J6 {ρ:aL}:∀{xs ys:List Value},xs.length=ys.length→(∀(k:Nat) (x y:Value),xs[k]?=some x→ys[k]?=some y→ax ρ x y)→bF ρ xs ys
 | [],[],_,_=>.nil
 | x::xs,y::ys,hl,h=>.cons (h 0 x y rfl rfl) (bF.J6 (by simpa using hl) fun k a b ha hb=>h (k+1) a b (by simpa using ha) (by simpa using hb))
theorem bF.take {ρ:aL} {xs ys:List Value} (h:bF ρ xs ys):∀n,bF ρ (xs.take n) (ys.take n):=by
 induction h with
 | nil=>intro n;simp;exact .nil
 | cons a _ ih=>intro n;cases n with
  | zero=>exact .nil
  | succ n=>exact .cons a (ih n)
theorem bF.drop {ρ:aL} {xs ys:List Value} (h:bF ρ xs ys):∀n,bF ρ (xs.drop n) (ys.drop n):=by
 induction h with
 | nil=>intro n;simp;exact .nil
 | cons a b ih=>intro n;cases n with
  | zero=>exact .cons a b
  | succ n=>exact ih n
theorem bF.set {ρ:aL} {xs ys:List Value} (h:bF ρ xs ys) {v v':Value} (hv:ax ρ v v'):∀n,bF ρ (xs.set n v) (ys.set n v'):=by
 induction h with
 | nil=>intro n;simp;exact .nil
 | cons a b ih=>intro n;cases n with
  | zero=>exact .cons hv b
  | succ n=>exact .cons a (ih n)
theorem bF.tF {ρ:aL} {xs xs':Array Value} (hs:xs.size=xs'.size) (h:∀(k:Nat) (x x':Value),xs[k]?=some x→xs'[k]?=some x'→ax ρ x x'):bF ρ xs.toList xs'.toList:=
 bF.J6 (by simpa using hs) fun k x y hx hy=>h k x y (by simpa using hx) (by simpa using hy)
theorem bF.ofList {ρ:aL} {xs xs':List Value} (h:bF ρ xs xs'):∀(k:Nat) (x x':Value),xs.toArray[k]?=some x→xs'.toArray[k]?=some x'→ax ρ x x':=by
 intro k x x' hx bS
 obtain ⟨y,hy,hr⟩:=h.get (k:=k) (x:=x) (by simpa using hx)
 simp at bS
 rw [hy] at bS
 cases bS
 exact hr
theorem ax.yB {ρ:aL} {xs xs':List Value} (h:bF ρ xs xs') (h1:∀x∈xs,gA x=true):ax ρ (.agg xs.toArray) (.agg xs'.toArray):=.agg (by simpa using h.length) (by simpa using h1) h.ofList
theorem ax.sr {ρ:aL} {xs xs':List Value} (h:bF ρ xs xs'):ax ρ (.tuple xs.toArray) (.tuple xs'.toArray):=.tuple (by simpa using h.length) h.ofList
def de (v:Value):List Value:=v.cells.toList
def iM:Value→Bool
 | .tuple _ | .complex _ _ _=>false
 | _=>true
theorem ax.cells {ρ:aL} {v v':Value} (h:ax ρ v v') (hn:iM v=true):bF ρ (de v) (de v'):=by
 cases h with
 | any _=>simp [iM] at hn
 | agg hs _ h=>exact bF.tF hs h
 | bool b=>exact .cons (.bool b) .nil
 | int k n=>exact .cons (.int k n) .nil
 | string s=>exact .cons (.string s) .nil
 | uC=>exact .cons .uC .nil
 | rh=>exact .cons .rh .nil
 | uB=>exact .cons .uB .nil
 | nilFunc=>exact .cons .nilFunc .nil
 | nilIface=>exact .cons .nilIface .nil
 | ptr hi=>exact .cons (.ptr hi) .nil
 | slice hi a b c d=>exact .cons (.slice hi a b c d) .nil
 | void a=>exact .cons (.void a) .nil
 | map hi=>exact .cons (.map hi) .nil
 | func f a b c d=>exact .cons (.func f a b c d) .nil
 | yield hi=>exact .cons (.yield hi) .nil
 | tuple a b=>simp [iM] at hn
def eR (h:ae) (i:Nat):Prop:=∃o,h[i]?=some o∧o≠ .dead
def cA (h:ae) (i:Nat):Prop:=(∃e xs,h[i]?=some (.arr e xs))∨(∃es,h[i]?=some (.smap es))∨(∃c ls vs,h[i]?=some (.loop c ls vs))∨(∃kd es,h[i]?=some (.kQ kd es))∨(∃g c es,h[i]?=some (.di g c es))∨(∃m s n l,h[i]?=some (.iter m s n l))
theorem cA.live {h:ae} {i:Nat} (hm:cA h i):eR h i:=by
 rcases hm with ⟨e,xs,hm⟩ | ⟨es,hm⟩ | ⟨c,ls,vs,hm⟩ | ⟨kd,es,hm⟩ | ⟨g,c,es,hm⟩ | ⟨m,s,n,l,hm⟩
 ·exact ⟨_,hm,by simp⟩
 ·exact ⟨_,hm,by simp⟩
 ·exact ⟨_,hm,by simp⟩
 ·exact ⟨_,hm,by simp⟩
 ·exact ⟨_,hm,by simp⟩
 ·exact ⟨_,hm,by simp⟩
def fY (ρ:aL) (c:Array Value) (sh:Nat) (xs:List Value):Prop:=∀(j:Nat) (x:Value),xs[j]?=some x→gA x=true∧∃y,c[sh+j]?=some y∧ax ρ x y
theorem ax.Fk {ρ:aL} {v v':Value} (h:ax ρ v v') (hc:gA v=true):v'.oneCell'=true:=by
 cases h <;> first | rfl | simp [gA] at hc
theorem bF.Fk {ρ:aL} {xs ys:List Value} (h:bF ρ xs ys) (h1:∀x∈xs,gA x=true):∀y∈ys,y.oneCell'=true:=by
 induction h with
 | nil=>intro y hy;simp at hy
 | cons a _ ih=>
  intro y hy
  rcases List.mem_cons.1 hy with rfl | hy
  ·exact a.Fk (h1 _ (by simp))
  ·exact ih (fun x hx=>h1 x (by simp [hx])) y hy
theorem ax.Ik {ρ:aL} {v v':Value} (h:ax ρ v v') (ht:iM v=true):∀x∈de v,gA x=true:=by
 cases h with
 | agg hs h1 h=>exact h1
 | tuple _ _=>simp [iM] at ht
 | any _=>simp [iM] at ht
 | _=>intro x hx;simp [de,Value.cells] at hx;subst hx;rfl
theorem fY.of {ρ:aL} {xs:List Value} {c:Array Value} (h:bF ρ xs c.toList) (h1:∀x∈xs,gA x=true):fY ρ c 0 xs:=by
 intro j x hj
 obtain ⟨y,hy,hr⟩:=h.get hj
 exact ⟨h1 x (mem_of_getElem? hj),y,by simpa using hy,hr⟩
def lE (ρ:aL) (w:World) (r:RI):aq→Prop
 | .ro e xs=>r.elem=e∧∃c t fr,w.heap[r.bz]?=some (.cells c t fr)∧c.size=r.size∧fY ρ c r.sh xs
 | .arr e xs=>r.elem=e∧r.sh=0∧∃c,w.heap[r.bz]?=some (.cells c e (0,0))∧c.size=r.size∧fY ρ c 0 xs
 | .smap es=>∃aK clock,w.heap[r.bz]?=some (.map aK clock)∧aK.size=es.length∧
   ∀(j:Nat) (k:ByteArray) (v:Value),es[j]?=some (k,v)→∃en,aK[j]?=some en∧en.key=.string k∧ax ρ v en.val
 | .kQ kd es=>∃aK clock,w.heap[r.bz]?=some (.map aK clock)∧aK.size=es.length∧
   ∀(j:Nat) (k:Int) (v:Value),es[j]?=some (k,v)→∃en,aK[j]?=some en∧en.key=.int kd k∧ax ρ v en.val
 | .di g clock es=>(es.map fun e=>e.2.1).Nodup∧∃aK,w.heap[r.bz]?=some (.map aK clock)∧aK.size=es.length∧
   ∀(j b:Nat) (k v:Value),es[j]?=some (b,k,v)→fc g k=true∧∃en,aK[j]?=some en∧en.key=k∧en.born=b∧ax ρ v en.val
 | .iter m kB seen last=>r.sh=0∧∃rm,ρ m=some rm∧w.heap[r.bz]?=some (.mapIter (some rm.bz) kB seen.toArray last)
 | .loop c ls vs=>∃rec,w.heap[r.bz]?=some (.loop rec)∧rec.state=.ready∧rec.pending=none∧rec.assign=c.kj∧rec.body=c.body∧rec.params=c.ps∧rec.tmps.size=c.N∧
   ∀t,ax ρ (kA ls vs t) (rec.tmps.getD t Go.undef)
 | .dead=>True
structure aY (P:Program) (ρ:aL) (h:ae) (w:World):Prop where
 obj:∀i r,ρ i=some r→∃o,h[i]?=some o∧lE ρ w r o
 inj:∀i j r s,ρ i=some r→ρ j=some s→r.bz=s.bz→cA h i→eR h j→i=j
 aW:∀i r,ρ i=some r→r.aW=P.cellsOf r.elem
theorem aY.lt {P:Program} {ρ:aL} {h:ae} {w:World} (H:aY P ρ h w) {i:Nat} {r:RI} (hi:ρ i=some r):i<h.length:=by
 obtain ⟨o,ho,_⟩:=H.obj i r hi
 exact (bD ho).1
structure Tr (ρ:aL) (h:ae) (w:World) (av:aL) (h':ae) (w':World):Prop where
 ext:ρ.le av
 len:h.length≤h'.length
 jG:∀i r,ρ i=some r→i<h.length
 kinds:∀i,i<h.length→cA h' i→cA h i
 fresh:∀i r,av i=some r→ρ i=none→h.length≤i∧(w.heap.size≤r.bz∨∃j s,ρ j=some s∧s.bz=r.bz∧cA h j)
 iP:w.heap.size≤w'.heap.size
 iy:∀b,b<w.heap.size→(∀j s,ρ j=some s→s.bz=b→¬cA h j)→w'.heap[b]?=w.heap[b]?
 os:w'.os=w.os
 tape:w'.tape=w.tape
 output:w'.output=w.output
theorem Tr.refl {P:Program} {ρ:aL} {h:ae} {w:World} (H:aY P ρ h w):Tr ρ h w ρ h w where
 ext:=.refl _
 len:=le_refl _
 jG:=fun _ _ hi=>H.lt hi
 kinds:=fun _ _ h=>h
 fresh:=fun i r h1 h2=>by rw [h1] at h2;cases h2
 iP:=le_refl _
 iy:=fun _ _ _=>rfl
 os:=rfl
 tape:=rfl
 output:=rfl
theorem Tr.trans {ny Wj amV:aL} {h₁ aeZ Jw:ae} {oN LJ amO:World} (a:Tr ny h₁ oN Wj aeZ LJ) (b:Tr Wj aeZ LJ amV Jw amO):Tr ny h₁ oN amV Jw amO where
 ext:=a.ext.trans b.ext
 len:=le_trans a.len b.len
 jG:=a.jG
 kinds:=fun i hi hm=>a.kinds i hi (b.kinds i (Nat.lt_of_lt_of_le hi a.len) hm)
 fresh:=by
  intro i r h3 h1
  cases h2:Wj i with
  | some r2=>
   have:=b.ext i r2 h2
   rw [h3] at this
   cases this
   exact a.fresh i r h2 h1
  | none=>
   obtain ⟨hl,hb⟩:=b.fresh i r h3 h2
   refine ⟨le_trans a.len hl,?_⟩
   rcases hb with hb | ⟨j,s,hj,hs,hm⟩
   ·exact .inl (le_trans a.iP hb)
   ·cases vG:ny j with
    | some s'=>
     have:=a.ext j s' vG
     rw [hj] at this
     cases this
     exact .inr ⟨j,s,vG,hs,a.kinds j (a.jG j s vG) hm⟩
    | none=>
     obtain ⟨_,h⟩:=a.fresh j s hj vG
     rw [hs] at h
     rcases h with h | ⟨j',s',q1,q2,q3⟩
     ·exact .inl h
     ·exact .inr ⟨j',s',q1,q2,q3⟩
 iP:=le_trans a.iP b.iP
 iy:=by
  intro k hk dC
  rw [b.iy k (Nat.lt_of_lt_of_le hk a.iP) ?_,a.iy k hk dC]
  intro j s hj hs hm
  cases vG:ny j with
  | some s'=>
   have:=a.ext j s' vG
   rw [hj] at this
   cases this
   exact dC j s vG hs (a.kinds j (a.jG j s vG) hm)
  | none=>
   obtain ⟨_,h⟩:=a.fresh j s hj vG
   rcases h with h | ⟨j',s',q1,q2,q3⟩
   ·omega
   ·exact dC j' s' q1 (by omega) q3
 os:=b.os.trans a.os
 tape:=b.tape.trans a.tape
 output:=b.output.trans a.output
theorem aY.drew {P:Program} {ρ:aL} {h:ae} {w:World} (H:aY P ρ h w) (n:Nat):aY P ρ h { w with drawn:=n }:=
 ⟨fun i r hi=>let ⟨o,ho,hr⟩:=H.obj i r hi;⟨o,ho,by cases o <;> exact hr⟩,H.inj,H.aW⟩
theorem Tr.drew {P:Program} {ρ:aL} {h:ae} {w:World} (H:aY P ρ h w) (n:Nat):Tr ρ h w ρ h { w with drawn:=n } where
 ext:=.refl _
 len:=le_refl _
 jG:=fun _ _ hi=>H.lt hi
 kinds:=fun _ _ h=>h
 fresh:=fun i r h1 h2=>by rw [h1] at h2;cases h2
 iP:=le_refl _
 iy:=fun _ _ _=>rfl
 os:=rfl
 tape:=rfl
 output:=rfl
def mark (D:Nat):Deferred:={ target:=.collected D,args:=#[] }
def marks (B:Nat):List Deferred→World→Prop
 | [],w=>B≤w.heap.size
 | d::ds,w=>(∃D,d=mark D∧B≤D∧w.heap[D]?=some (.deferred (some []))∧∀d'∈ds,d'≠mark D)∧marks B ds w
theorem aY.SX {P:Program} {ρ:aL} {h:ae} {w:World} (H:aY P ρ h w) {D:Nat} {x:Option (List Deferred)} (hD:w.heap[D]?=some (.deferred x)) {j:Nat} {s:RI} (hj:ρ j=some s) (hs:s.bz=D):¬eR h j:=by
 rintro ⟨o,ho,bk⟩
 obtain ⟨o',dL,hr⟩:=H.obj j s hj
 rw [ho] at dL
 cases dL
 subst hs
 cases o with
 | ro e xs=>obtain ⟨_,c,_,fr,h2,_⟩:=hr;rw [hD] at h2;cases h2
 | arr e xs=>obtain ⟨_,_,c,h2,_⟩:=hr;rw [hD] at h2;cases h2
 | smap es=>obtain ⟨aK,clock,h1,_⟩:=hr;rw [hD] at h1;cases h1
 | kQ kd es=>obtain ⟨aK,clock,h1,_⟩:=hr;rw [hD] at h1;cases h1
 | di g c es=>obtain ⟨_,aK,h1,_⟩:=hr;rw [hD] at h1;cases h1
 | iter m s n l=>obtain ⟨_,rm,_,h1⟩:=hr;rw [hD] at h1;cases h1
 | loop c ls vs=>obtain ⟨rec,h1,_⟩:=hr;rw [hD] at h1;cases h1
 | dead=>exact bk rfl
theorem marks.tr {P:Program} {ρ av:aL} {h h':ae} {w w':World} (H:aY P ρ h w) (T:Tr ρ h w av h' w') {B:Nat}:∀{ds:List Deferred},marks B ds w→marks B ds w'
 | [],hb=>le_trans hb T.iP
 | d::ds,⟨⟨D,h1,h2,h3,h4⟩,h5⟩=>
  ⟨⟨D,h1,h2,by rw [T.iy D (Array.getElem?_eq_some_iff.1 h3).1 fun j s hj hs hm=>H.SX h3 hj hs hm.live];exact h3,h4⟩,marks.tr H T h5⟩
theorem marks.lt {B:Nat} {w:World}:∀{ds:List Deferred},marks B ds w→∀d∈ds,∃D,d=mark D∧D<w.heap.size
 | [],_,d,hd=>by simp at hd
 | d::ds,⟨⟨D,h1,h2,h3,h4⟩,h5⟩,d',hd=>by
  rcases List.mem_cons.1 hd with rfl | hd
  ·exact ⟨D,h1,(Array.getElem?_eq_some_iff.1 h3).1⟩
  ·exact marks.lt h5 d' hd
theorem marks.base {B:Nat} {w:World}:∀{ds:List Deferred},marks B ds w→B≤w.heap.size
 | [],h=>h
 | _::_,h=>marks.base h.2
theorem afX {a b:Nat} (h:mark a=mark b):a=b:=by
 simp [mark] at h
 exact h
structure ee (P:Program) (N:Nat) (B:Nat) (ρ:aL) (f:Nat→Value) (h:ae) (a:Act) (w:World):Prop where
 size:a.tmps.size=N
 defers:marks B a.defers w
 tmp:∀t,ax ρ (f t) (a.tmps.getD t Go.undef)
 heap:aY P ρ h w
def ye (f:Nat→Value) (t:Nat) (v:Value):Nat→Value:=fun j=>match Nat.beq j t with | true=>v | false=>f j
theorem tH (f:Nat→Value) (t:Nat) (v:Value):ye f t v=fun j=>if j=t then v else f j:=by
 funext j
 unfold ye
 split
 ·rename_i h;rw [if_pos (Nat.eq_of_beq_eq_true h)]
 ·rename_i h;rw [if_neg (Nat.ne_of_beq_eq_false h)]
def ev (f:Nat→Value):Operand→Value
 | .tmp t=>f t
 | .const v=>v
 | .global g=>.pointer (some ⟨g,0,none⟩)
 | .func f=>.func (.func f) #[] #[]
def mm:Value→Bool
 | .bool _ | .int .. | .string _ | .nilFunc | .nilIface=>true
 | .pointer none | .map none=>true
 | .slice none 0 0=>true
 | _=>false
def jC:Operand→Bool
 | .tmp _=>true
 | .const v=>mm v
 | .global _=>false
 | .func _=>true
theorem mm.rel {ρ:aL} {v:Value} (h:mm v=true):ax ρ v v:=by
 unfold mm at h
 split at h
 ·exact .bool _
 ·exact .int _ _
 ·exact .string _
 ·exact .nilFunc
 ·exact .nilIface
 ·exact .uC
 ·exact .uB
 ·exact .rh
 ·simp at h
theorem ee.ev {P:Program} {N B:Nat} {ρ:aL} {f:Nat→Value} {h:ae} {a:Act} {w:World} (R:ee P N B ρ f h a w) {x:Operand} (hx:jC x=true):
  ax ρ (ev f x) (a.eval x):=by
 cases x with
 | tmp t=>exact R.tmp t
 | const v=>exact mm.rel hx
 | global g=>simp [jC] at hx
 | func g=>exact .func g rfl rfl (fun k x x' e e'=>by simp at e) (fun k x x' e e'=>by simp at e)
theorem ee.put {P:Program} {N B:Nat} {ρ av:aL} {f:Nat→Value} {h h':ae} {a:Act} {w w':World} (R:ee P N B ρ f h a w) {d:Nat} (hd:d<N) {v v':Value}
  (T:Tr ρ h w av h' w') (hv:ax av v v') (H:aY P av h' w'):ee P N B av (ye f d v) h' (a.put (some d) v') w' where
 size:=by simp [Act.put,R.size]
 defers:=marks.tr R.heap T R.defers
 tmp:=by
  intro t
  simp only [tH]
  by_cases ht:t=d
  ·subst ht
   have:t<a.tmps.size:=by rw [R.size];exact hd
   simp [Act.put,Array.getD,this]
   exact hv
  ·rw [if_neg ht]
   have:=(R.tmp t).mono T.ext
   have e:((a.put (some d) v').tmps.getD t Go.undef)=a.tmps.getD t Go.undef:=by
    simp only [Act.put,Array.getD_eq_getD_getElem?,Array.getElem?_setIfInBounds]
    rw [if_neg (by omega)]
   rw [e]
   exact this
 heap:=H
theorem ee.mono {P:Program} {N B:Nat} {ρ av:aL} {f:Nat→Value} {h h':ae} {a:Act} {w w':World} (R:ee P N B ρ f h a w) (T:Tr ρ h w av h' w') (H:aY P av h' w'):
  ee P N B av f h' a w':=⟨R.size,marks.tr R.heap T R.defers,fun t=>(R.tmp t).mono T.ext,H⟩
end
section
def S (l:List UInt8):Value:=.string ⟨l.toArray⟩
def bytes (s:ByteArray):List UInt8:=s.data.toList
theorem aqQ (l:List UInt8):bytes ⟨l.toArray⟩=l:=by simp [bytes]
theorem E9 (s:ByteArray):(⟨(bytes s).toArray⟩:ByteArray)=s:=by simp [bytes]
inductive qy where
 | mv (x:Operand)
 | pick (c a b:Operand)
 | bin (op:BinOp) (x y:Operand)
 | IF (neg:Bool) (x y:Operand)
 | IG (neg:Bool) (x y:Operand)
 | un (op:UnOp) (x:Operand)
 | conv (k:IntKind) (x:Operand)
 | Vt (x:Operand)
 | Sx (x:Operand)
 | Sy (x:Operand)
 | JM (n:Nat)
 | E8 (mx:Bool) (xs:List Operand)
 | Sb (x i:Operand)
 | R9 (n aW:Nat) (agg:Bool) (x i:Operand)
 | OG (aW:Nat) (x i:Operand)
 | OF (n aW:Nat) (x i:Operand)
 | Qd (off:Nat) (x:Operand)
 | Qh (agg:Bool) (off sz:Nat) (x:Operand)
 | Lg (x:Operand) (lo hi:Option Operand)
 | Lh (e:TypeId) (aW:Nat) (x:Operand) (lo hi:Option Operand)
 | SU (x:Operand)
 | fn (f:FuncId) (first captured:List Operand)
 | ext (x:Operand) (i:Nat)
 | build (zero:List Value) (parts:List (Nat×Nat×Operand))
 | Sa (f:FuncId) (x c:Operand)
def ie (op:BinOp) (k:IntKind) (a b:Int):Option Value:=
 match op with
 | .add=>some (.int k (k.wrap (a+b)))
 | .sub=>some (.int k (k.wrap (a-b)))
 | .mul=>some (.int k (k.wrap (a*b)))
 | .quo=>if b=0 then none else some (.int k (k.wrap (a.tdiv b)))
 | .rem=>if b=0 then none else some (.int k (a.tmod b))
 | .and=>some (.int k (k.wrap (BitVec.ofInt k.bits a &&& BitVec.ofInt k.bits b).toNat))
 | .or=>some (.int k (k.wrap (BitVec.ofInt k.bits a ||| BitVec.ofInt k.bits b).toNat))
 | .xor=>some (.int k (k.wrap (BitVec.ofInt k.bits a^^^BitVec.ofInt k.bits b).toNat))
 | .andNot=>some (.int k (k.wrap (BitVec.ofInt k.bits a &&& ~~~BitVec.ofInt k.bits b).toNat))
 | .eql=>some (.bool (decide (a=b)))
 | .neq=>some (.bool (!decide (a=b)))
 | .lss=>some (.bool (decide (a<b)))
 | .leq=>some (.bool (decide (a≤b)))
 | .gtr=>some (.bool (decide (b<a)))
 | .geq=>some (.bool (decide (b≤a)))
 | _=>none
def qX (op:BinOp) (k:IntKind) (a b:Int):Option Value:=
 if b<0 then none else
 match op with
 | .shl=>some (.int k (k.wrap (a*2^(min b.toNat k.bits))))
 | .shr=>some (.int k (a.fdiv (2^(min b.toNat k.bits))))
 | _=>none
def Aa (op:BinOp) (a b:List UInt8):Option Value:=
 match op with
 | .add=>if a.length+b.length≤maxLen then some (S (a++b)) else none
 | .eql=>some (.bool (decide (a=b)))
 | .neq=>some (.bool (!decide (a=b)))
 | .lss=>some (.bool (Op.bytesLess a b))
 | .leq=>some (.bool (Op.bytesLess a b||decide (a=b)))
 | .gtr=>some (.bool (!(Op.bytesLess a b||decide (a=b))))
 | .geq=>some (.bool (!Op.bytesLess a b))
 | _=>none
def ai (op:BinOp) (x y:Value):Option Value:=
 match x,y with
 | .int k a,.int k' b=>
  match op with
  | .shl=>qX .shl k a b
  | .shr=>qX .shr k a b
  | op=>if k=k' then ie op k a b else none
 | .string s,.string t=>Aa op (bytes s) (bytes t)
 | _,_=>none
def um (neg:Bool) (x y:Value):Option Value:=
 match x,y with
 | .bool a,.bool b=>some (.bool (if neg then !(a==b) else a==b))
 | _,_=>none
def JC:Value→Option Bool
 | .slice none 0 0=>some true
 | .slice (some _) _ _=>some false
 | _=>none
def RY (neg:Bool) (x y:Value):Option Value:=
 match JC x,JC y with
 | some a,some b=>if a||b then some (.bool (if neg then !(a&&b) else a&&b)) else none
 | _,_=>none
def gT (op:UnOp) (x:Value):Option Value:=
 match op,x with
 | .neg,.int k n=>some (.int k (k.wrap (0-n)))
 | .not,.bool b=>some (.bool !b)
 | .xor,.int k n=>some (.int k (k.wrap (BitVec.ofInt k.bits (if k.signed then -1 else k.max)^^^BitVec.ofInt k.bits n).toNat))
 | _,_=>none
def c8 (k:IntKind):Value→Option Value
 | .int _ n=>some (.int k (k.wrap n))
 | _=>none
def ae0:Value→Option Value
 | .string s=>some (.string s)
 | _=>none
def gy:Value→Option Value
 | .string s=>some (.int .i64 (bytes s).length)
 | _=>none
def bj:Value→Option Value
 | .slice _ n _=>some (.int .i64 n)
 | _=>none
def max2 (mx:Bool):Value→Value→Option Value
 | .int k x,.int _ y=>some (.int k (if mx then (if y>x then y else x) else (if y<x then y else x)))
 | _,_=>none
def xQ (mx:Bool):List Value→Option Value
 | .int k x::rest=>rest.foldlM (max2 mx) (.int k x)
 | _=>none
def jW (x i:Value):Option Value:=
 match x,i with
 | .string s,.int _ i=>if 0≤i then ((bytes s)[i.toNat]?).map fun b=>.int .u8 b.toNat else none
 | _,_=>none
def cf (agg:Bool) (off sz:Nat) (cs:List Value):Option Value:=
 if agg then (if off+sz≤cs.length then some (.agg ((cs.drop off).take sz).toArray) else none) else cs[off]?
def RZ (n aW:Nat) (agg:Bool) (x i:Value):Option Value:=
 match x,i with
 | .agg cs,.int _ i=>if 0≤i∧i<n then cf agg (i.toNat*aW) aW cs.toList else none
 | _,_=>none
def a9 (aW:Nat) (x i:Value):Option Value:=
 match x,i with
 | .slice (some ⟨id,o,some _⟩) n _,.int _ i=>if 0≤i∧i<n then some (.pointer (some ⟨id,o+i.toNat*aW,none⟩)) else none
 | _,_=>none
def kP (n aW:Nat) (x i:Value):Option Value:=
 match x,i with
 | .pointer (some ⟨id,o,none⟩),.int _ i=>if 0≤i∧i<n then some (.pointer (some ⟨id,o+i.toNat*aW,none⟩)) else none
 | _,_=>none
def aM (off:Nat) (x:Value):Option Value:=
 match x with
 | .pointer (some ⟨id,o,none⟩)=>some (.pointer (some ⟨id,o+off,none⟩))
 | _=>none
def zY (agg:Bool) (off sz:Nat) (x:Value):Option Value:=
 match x with
 | .agg cs=>cf agg off sz cs.toList
 | _=>none
def tu:Value→Option Nat
 | .int _ i=>if 0≤i then some i.toNat else none
 | _=>none
def rZ (n:Nat) (lo hi:Option Value):Option (Nat×Nat):=
 match (match lo with | none=>some 0 | some v=>tu v),(match hi with | none=>some n | some v=>tu v) with
 | some l,some h=>if l≤h∧h≤n then some (l,h) else none
 | _,_=>none
def lj (x:Value) (lo hi:Option Value):Option Value:=
 match x with
 | .string s=>(rZ (bytes s).length lo hi).map fun (l,h)=>S (((bytes s).take h).drop l)
 | _=>none
def mD (e:TypeId) (aW:Nat) (x:Value) (lo hi:Option Value):Option Value:=
 match x with
 | .slice none 0 0=>(rZ 0 lo hi).map fun _=>.slice none 0 0
 | .slice (some ⟨id,o,some e'⟩) n _=>
  if e'=e then (rZ n lo hi).map fun (l,h)=>.slice (some ⟨id,o+l*aW,some e⟩) (h-l) (h-l) else none
 | _=>none
def xR (x:Value):Option Value:=
 match x with
 | .pointer (some a)=>some (.pointer (some a))
 | .func f a b=>some (.func f a b)
 | _=>none
def ca (i:Nat) (x:Value):Option Value:=
 match x with
 | .tuple vs=>vs[i]?
 | _=>none
def setAt (xs:List Value) (o:Nat) (vs:List Value):List Value:=xs.take o++vs++xs.drop (o+vs.length)
def sN:List Value→List (Nat×Nat×Value)→Option (List Value)
 | xs,[]=>some xs
 | xs,(off,size,v)::rest=>
  if iM v∧(de v).length=size∧off+size≤xs.length then sN (setAt xs off (de v)) rest else none
def dh (zero:List Value) (parts:List (Nat×Nat×Value)):Option Value:=(sN zero parts).map fun cs=>.agg cs.toArray
def bX (c a b:Value):Option Value:=
 match c with
 | .bool t=>some (if t then a else b)
 | _=>none
def EU (x c:Value):Option Value:=
 match x,c with
 | .string s,.int .u8 c=>some (.int .i64 (Lib.indexByte (bytes s) c.toNat.toUInt8))
 | _,_=>none
def jB (o:qy) (g:Operand→Value):Option Value:=
 match o with
 | .mv x=>some (g x)
 | .pick c a b=>bX (g c) (g a) (g b)
 | .bin op x y=>ai op (g x) (g y)
 | .IF neg x y=>um neg (g x) (g y)
 | .IG neg x y=>RY neg (g x) (g y)
 | .un op x=>gT op (g x)
 | .conv k x=>c8 k (g x)
 | .Vt x=>ae0 (g x)
 | .Sx x=>gy (g x)
 | .Sy x=>bj (g x)
 | .JM n=>some (.int .i64 n)
 | .E8 mx xs=>xQ mx (xs.map g)
 | .Sb x i=>jW (g x) (g i)
 | .R9 n aW agg x i=>RZ n aW agg (g x) (g i)
 | .OG aW x i=>a9 aW (g x) (g i)
 | .OF n aW x i=>kP n aW (g x) (g i)
 | .Qd off x=>aM off (g x)
 | .Qh agg off sz x=>zY agg off sz (g x)
 | .Lg x lo hi=>lj (g x) (lo.map g) (hi.map g)
 | .Lh e aW x lo hi=>mD e aW (g x) (lo.map g) (hi.map g)
 | .SU x=>xR (g x)
 | .fn f first captured=>some (.func (.func f) (first.map g).toArray (captured.map g).toArray)
 | .ext x i=>ca i (g x)
 | .build zero parts=>dh zero (parts.map fun (o,s,x)=>(o,s,g x))
 | .Sa f x c=>
  match g (.func f) with
  | .func (.func f') a b=>if f'=f∧a.size=0∧b.size=0 then EU (g x) (g c) else none
  | _=>none
def oH:TypeDesc→Bool
 | .struct _ | .array _ _=>true
 | _=>false
def Bf (v:Value):Bool:=mm v&&gA v
def zeroOf (P:Program) (t:TypeId):Option (List Value):=
 match P.info? t with
 | some i=>match i.zero with
  | some z=>if iM z&&(de z).all Bf&&(de z).length==i.size then some (de z) else none
  | none=>none
 | none=>none
def placesOf (P:Program) (fs:Array Field):List (Nat×Nat):=fs.toList.map fun f=>(f.offset,P.cellsOf f.type)
def iK (P:Program) (t:TypeId):Bool:=(P.info? t).isSome
def P8 (P:Program) (f:FuncId):Bool:=
 match P.funcs[f]? with
 | some fn=>fn.body.isNone&&fn.name== "internal/bytealg.IndexByteString" &&(Extern.findNext fn).isNone
 | none=>false
def iU (P:Program):Op→Option qy
 | .move x | .assign x=>some (.mv x)
 | .pick c a b=>some (.pick c a b)
 | .binOp op t x y _=>
  match op,P.underlying t with
  | .eql,some .bool=>some (.IF false x y)
  | .neq,some .bool=>some (.IF true x y)
  | .eql,some (.slice _)=>some (.IG false x y)
  | .neq,some (.slice _)=>some (.IG true x y)
  | op,_=>some (.bin op x y)
 | .unOp op _ x=>some (.un op x)
 | .convert s d x=>
  match P.underlying s,P.underlying d with
  | some (.int _),some (.int k)=>some (.conv k x)
  | some .string,some .string=>some (.Vt x)
  | _,_=>none
 | .call { callee:=.builtin .len,args,argTypes }=>
  match args.toList,argTypes.toList with
  | [x],[t]=>
   match P.underlying t with
   | some .string=>some (.Sx x)
   | some (.slice _)=>some (.Sy x)
   | some (.array n _)=>some (.JM n)
   | _=>none
  | _,_=>none
 | .call { callee:=.builtin .min,args,argTypes:=_ }=>some (.E8 false args.toList)
 | .call { callee:=.builtin .max,args,argTypes:=_ }=>some (.E8 true args.toList)
 | .call { callee:=.value (.func f),args,argTypes:=_ }=>
  match args.toList with
  | [x,c]=>if P8 P f then some (.Sa f x c) else none
  | _=>none
 | .index t x i=>
  match P.underlying t with
  | some .string=>some (.Sb x i)
  | some (.array n e)=>
   match P.underlying e with
   | some d=>if iK P e&&(oH d||P.cellsOf e==1) then some (.R9 n (P.cellsOf e) (oH d) x i) else none
   | none=>none
  | _=>none
 | .indexAddr t x i=>
  match P.underlying t with
  | some (.slice e)=>if iK P e then some (.OG (P.cellsOf e) x i) else none
  | some (.array n e)=>if iK P e then some (.OF n (P.cellsOf e) x i) else none
  | _=>none
 | .fieldAddr t x f=>
  match P.underlying t with
  | some (.struct fs)=>
   match fs[f]? with
   | some fd=>if iK P fd.type&&P.cellsOf fd.type != 0 then some (.Qd fd.offset x) else none
   | none=>none
  | _=>none
 | .field t x f=>
  match P.underlying t with
  | some (.struct fs)=>
   match fs[f]? with
   | some fd=>
    match P.underlying fd.type with
    | some d=>if iK P fd.type&&(oH d||P.cellsOf fd.type==1) then some (.Qh (oH d) fd.offset (P.cellsOf fd.type) x) else none
    | none=>none
   | none=>none
  | _=>none
 | .slice t x lo hi mx=>
  match P.underlying t,mx with
  | some .string,none=>some (.Lg x lo hi)
  | some (.slice e),none=>if iK P e then some (.Lh e (P.cellsOf e) x lo hi) else none
  | _,_=>none
 | .nilCheck x=>some (.SU x)
 | .makeFunc (.func f) first captured=>some (.fn f first.toList captured.toList)
 | .extract x i=>some (.ext x i)
 | .build t parts=>
  match P.underlying t,zeroOf P t with
  | some (.struct fs),some z=>
   if fs.all fun f=>iK P f.type then
    match parts.toList.mapM (m:=Option) fun (i,x)=>(placesOf P fs)[i]? |>.map fun (o,s)=>(o,s,x) with
    | some ps=>some (.build z ps)
    | none=>none
   else none
  | some (.array _ e),some z=>if iK P e then some (.build z (parts.toList.map fun (i,x)=>(i*P.cellsOf e,P.cellsOf e,x))) else none
  | _,_=>none
 | _=>none
end
section
theorem ax.mE {ρ:aL} {k:IntKind} {n:Int} {v:Value} (h:ax ρ (.int k n) v):v=.int k n:=by cases h;rfl
theorem ax.yJ {ρ:aL} {b:Bool} {v:Value} (h:ax ρ (.bool b) v):v=.bool b:=by cases h;rfl
theorem ax.wJ {ρ:aL} {s:ByteArray} {v:Value} (h:ax ρ (.string s) v):v=.string s:=by cases h;rfl
theorem ax.S (ρ:aL) (l:List UInt8):ax ρ (S l) (S l):=.string _
theorem toList_eq (s:ByteArray):s.toList=bytes s:=by
 obtain ⟨⟨l⟩⟩:=s
 exact ByteArray.toList_mk l
theorem aqP (s t:ByteArray):(s.toList==t.toList)=decide (bytes s=bytes t):=by
 rw [toList_eq,toList_eq]
 by_cases h:bytes s=bytes t <;> simp [h]
theorem FN (s:ByteArray):s.size=(bytes s).length:=by simp [bytes]
theorem aqF (s t:ByteArray):s++t=⟨(bytes s++bytes t).toArray⟩:=by
 apply ByteArray.ext
 apply ext'
 simp [bytes]
section
variable (P : Program) (w : World)
theorem aD5 {op:BinOp} {k:IntKind} {a b:Int} {v:Value} (t:TypeId) (cZ:op≠ .shl) (aw2:op≠ .shr) (h:ie op k a b=some v):
  (binOp op t (.int k a) (.int k b)).run P w=.ok v w:=by
 cases op <;> simp [ie] at h <;> simp at cZ aw2 <;> (first | subst h | (obtain ⟨hb,h⟩:=h;subst h)) <;>
  simp_all [binOp,Op.intArith,Op.intDiv,Op.intBits,Op.intCmp]
 ·rw [Bool.eq_iff_iff];simp
 ·rw [Bool.eq_iff_iff];simp
theorem ama {op:BinOp} {k k':IntKind} {a b:Int} {v:Value} (t:TypeId) (cZ:op=.shl∨op=.shr) (h:qX op k a b=some v):
  (binOp op t (.int k a) (.int k' b)).run P w=.ok v w:=by
 unfold qX at h
 by_cases hb:b<0
 ·rw [if_pos hb] at h;cases h
 ·rw [if_neg hb] at h
  rcases cZ with rfl | rfl <;> simp at h <;> subst h <;> simp [binOp,Op.shift,hb]
theorem aEj {op:BinOp} {s s':ByteArray} {v:Value} (t:TypeId) (h:Aa op (bytes s) (bytes s')=some v):
  (binOp op t (.string s) (.string s')).run P w=.ok v w:=by
 have e1:=aqP s s'
 have hl:IntKind.i64.max=9223372036854775807:=rfl
 cases op <;> simp [Aa] at h <;> (first | subst h | (obtain ⟨hb,h⟩:=h;subst h)) <;> simp only [binOp,Op.stringOp]
 all_goals first
  | (rw [e1];simp [toList_eq];done)
  | (simp [toList_eq];done)
  | skip
 ·unfold maxLen at hb
  rw [if_neg (by rw [hl,FN,FN];omega)]
  rw [aqF]
  rfl
theorem aDL (op:BinOp) (t:TypeId) (x y:Operand) (k k':IntKind) (a b:Int):(eqGuard op t x y (.int k a) (.int k' b)).run P w=.ok () w:=by
 unfold eqGuard
 cases op <;> simp
theorem aDN (op:BinOp) (t:TypeId) (x y:Operand) (a b:ByteArray):(eqGuard op t x y (.string a) (.string b)).run P w=.ok () w:=by
 unfold eqGuard
 cases op <;> simp
theorem aDK (op:BinOp) (t:TypeId) (x y:Operand) (a b:Bool):(eqGuard op t x y (.bool a) (.bool b)).run P w=.ok () w:=by
 unfold eqGuard
 cases op <;> simp
theorem aDM (op:BinOp) (t:TypeId) (x y:Operand) (a b:Option Addr) (n m c d:Nat):(eqGuard op t x y (.slice a n c) (.slice b m d)).run P w=.ok () w:=by
 unfold eqGuard
 cases op <;> simp
theorem aDT {ρ:aL} {op:BinOp} {x y x' y' v:Value} (t:TypeId) (ox oy:Operand) (h:ai op x y=some v) (hx:ax ρ x x') (hy:ax ρ y y'):
  (do eqGuard op t ox oy x' y';binOp op t x' y':Sem Value).run P w=.ok v w∧ax ρ v v:=by
 unfold ai at h
 split at h
 ·rename_i k a k' b
  rw [hx.mE,hy.mE]
  have hv:(binOp op t (.int k a) (.int k' b)).run P w=.ok v w∧ax ρ v v:=by
   split at h
   ·refine ⟨ama P w t (.inl rfl) h,?_⟩
    unfold qX at h
    split at h <;> simp at h
    subst h;exact .int _ _
   ·refine ⟨ama P w t (.inr rfl) h,?_⟩
    unfold qX at h
    split at h <;> simp at h
    subst h;exact .int _ _
   ·rename_i h1 h2
    split at h
    ·rename_i hk
     subst hk
     refine ⟨aD5 P w t h1 h2 h,?_⟩
     cases op <;> simp [ie] at h <;> (first | subst h | (obtain ⟨_,h⟩:=h;subst h)) <;> first | exact .int _ _ | exact .bool _
    ·cases h
  simp only [Sem.run_bind,aDL,Result.andThen_ok]
  exact hv
 ·rename_i s s'
  rw [hx.wJ,hy.wJ]
  simp only [Sem.run_bind,aDN,Result.andThen_ok]
  refine ⟨aEj P w t h,?_⟩
  cases op <;> simp [Aa] at h <;> (first | subst h | (obtain ⟨_,h⟩:=h;subst h)) <;> first | exact .string _ | exact .bool _
 ·cases h
theorem al3 {ρ:aL} {neg:Bool} {op:BinOp} {x y x' y' v:Value} (t:TypeId) (ox oy:Operand) (ht:P.underlying t=some .bool) (cZ:op=if neg then .neq else .eql)
  (h:um neg x y=some v) (hx:ax ρ x x') (hy:ax ρ y y'):
  (do eqGuard op t ox oy x' y';binOp op t x' y':Sem Value).run P w=.ok v w∧ax ρ v v:=by
 unfold um at h
 split at h
 ·rename_i a b
  rw [hx.yJ,hy.yJ]
  simp only [Sem.run_bind,aDK,Result.andThen_ok]
  simp at h
  subst h
  refine ⟨?_,.bool _⟩
  cases neg <;> simp at cZ <;> subst cZ
  ·exact run_eql_bool w t a b ht
  ·exact run_neq_bool w t a b ht
 ·cases h
theorem al4 {ρ:aL} {neg:Bool} {op:BinOp} {x y x' y' v:Value} {e:TypeId} (t:TypeId) (ox oy:Operand) (ht:P.underlying t=some (.slice e)) (cZ:op=if neg then .neq else .eql)
  (h:RY neg x y=some v) (hx:ax ρ x x') (hy:ax ρ y y'):
  (do eqGuard op t ox oy x' y';binOp op t x' y':Sem Value).run P w=.ok v w∧ax ρ v v:=by
 unfold RY at h
 split at h
 ·rename_i a b ha hb
  split at h
  ·rename_i hX
   simp at h
   subst h
   refine ⟨?_,.bool _⟩
   cases hx <;> simp [JC] at ha <;> cases hy <;> simp [JC] at hb <;> subst ha <;> subst hb <;> simp at hX
   all_goals
    simp only [Sem.run_bind,aDM,Result.andThen_ok]
    cases neg <;> simp at cZ <;> subst cZ <;> simp only [Lib.run_eql_slice_nil w t e _ _ _ _ _ ht,run_neq_slice_nil_any w t e _ _ _ _ _ ht,run_eql_nil_slice w t e _ _ _ _ _ ht,run_neq_nil_slice w t e _ _ _ _ _ ht] <;> simp
  ·cases h
 ·cases h
theorem aEk {ρ:aL} {op:UnOp} {x x' v:Value} (h:gT op x=some v) (hx:ax ρ x x'):(Op.unary op x').run P w=.ok v w∧ax ρ v v:=by
 unfold gT at h
 split at h
 ·rw [hx.mE];simp at h;subst h;exact ⟨by simp [Op.unary,Op.intArith],.int _ _⟩
 ·rw [hx.yJ];simp at h;subst h;exact ⟨by simp [Op.unary],.bool _⟩
 ·rw [hx.mE];simp only [Option.some.injEq] at h;subst h;exact ⟨rfl,.int _ _⟩
 ·cases h
end
end
section
section
variable {P : Program} (w : World)
theorem axU {t:TypeId} (h:iK P t=true):∃i,P.info? t=some i:=by
 unfold iK at h
 exact Option.isSome_iff_exists.1 h
theorem rr {t:TypeId} (h:iK P t=true):(sizeOf t).run P w=.ok (P.cellsOf t) w:=by
 obtain ⟨i,hi⟩:=axU h
 exact run_sizeOf w hi
theorem Vg {t:TypeId} {d:TypeDesc} (h:P.underlying t=some d):(isAgg t).run P w=.ok (oH d) w:=by
 cases d <;> simp [isAgg,run_underlying h,oH]
theorem aze {mx:Bool} {k:IntKind} {x:Int} {y v:Value} (h:max2 mx (.int k x) y=some v):∃k' b,y=.int k' b∧∃z,v=.int k z:=by
 unfold max2 at h
 split at h
 ·rename_i k2 x2 k3 y2 e
  cases e
  simp at h
  exact ⟨k3,y2,rfl,_,h.symm⟩
 ·cases h
theorem Vh {ρ:aL} {mx:Bool}:∀{xs xs':List Value} {k:IntKind} {x:Int} {v:Value},xs.foldlM (max2 mx) (.int k x)=some v→bF ρ xs xs'→
  (xs'.foldlM (if mx then Builtin.max2 else Builtin.min2) (.int k x):Sem Value).run P w=.ok v w∧ax ρ v v
 | [],xs',k,x,v,h,hs=>by
  cases hs
  simp at h
  subst h
  exact ⟨rfl,.int _ _⟩
 | y::xs,xs',k,x,v,h,hs=>by
  cases hs with
  | cons hy hs=>
   simp only [List.foldlM_cons,Option.bind_eq_bind,bind_eq_some_iff] at h
   obtain ⟨u,hu,h⟩:=h
   obtain ⟨k',b,rfl,z,rfl⟩:=aze hu
   have ih:=Vh (ρ:=ρ) h hs
   refine ⟨?_,ih.2⟩
   rw [hy.mE]
   simp only [List.foldlM_cons,Sem.run_bind]
   simp only [max2,Option.some.injEq,Value.int.injEq,true_and] at hu
   cases mx
   ·simp at hu⊢
    simp only [Builtin.min2,Sem.run_pure,Result.andThen_ok,hu]
    simpa using ih.1
   ·simp at hu⊢
    simp only [Builtin.max2,Sem.run_pure,Result.andThen_ok,gt_iff_lt,hu]
    simpa using ih.1
theorem aD4 {ρ:aL} {t:TypeId} {x i x' i' v:Value} (ht:P.underlying t=some .string) (h:jW x i=some v) (hx:ax ρ x x') (hi:ax ρ i i'):
  (Instr.index t x' i').run P w=.ok v w∧ax ρ v v:=by
 unfold jW at h
 split at h
 ·rename_i s k j
  rw [hx.wJ,hi.mE]
  split at h
  ·rename_i h0
   simp only [map_eq_some_iff] at h
   obtain ⟨b,hb,rfl⟩:=h
   refine ⟨?_,.int _ _⟩
   have kI:s[j.toNat]?=some b:=by
    have aD:=(bD hb).1
    have:j.toNat<s.size:=by rw [FN];exact aD
    rw [getElem?_pos s j.toNat this]
    have e:=(bD hb).2
    simp only [bytes,Array.getElem_toList] at e
    rw [←e]
    rfl
   simp [Instr.index,asIntOf,run_underlying ht,h0,kI]
  ·cases h
 ·cases h
theorem axG {ρ:aL} {agg:Bool} {off sz:Nat} {cs:List Value} {jy:Array Value} {v:Value} (h:cf agg off sz cs=some v) (hs:bF ρ cs jy.toList) (h1:∀x∈cs,gA x=true):
  ∃v',(if agg then some (.agg (jy.extract off (off+sz))) else jy[off]?)=some v'∧ax ρ v v':=by
 unfold cf at h
 cases agg
 ·simp at h⊢
  obtain ⟨y,hy,hr⟩:=hs.get h
  exact ⟨y,by simpa using hy,hr⟩
 ·simp at h⊢
  obtain ⟨hl,rfl⟩:=h
  have:=((hs.drop off).take sz)
  have e:(jy.extract off (off+sz))=((jy.toList.drop off).take sz).toArray:=by
   apply ext'
   simp [List.take_drop]
  rw [e]
  exact .yB this (fun x hx=>h1 x (List.mem_of_mem_drop (List.mem_of_mem_take hx)))
theorem al9 {ρ:aL} {t:TypeId} {d:TypeDesc} {off:Nat} {cs:List Value} {jy:Array Value} {v:Value} (ht:P.underlying t=some d) (hk:iK P t=true)
  (h:cf (oH d) off (P.cellsOf t) cs=some v) (hs:bF ρ cs jy.toList) (h1:∀x∈cs,gA x=true):
  ∃v',(part t jy off).run P w=.ok v' w∧ax ρ v v':=by
 obtain ⟨v',hv,hr⟩:=axG h hs h1
 refine ⟨v',?_,hr⟩
 unfold part
 simp only [Sem.run_bind,Vg w ht,Result.andThen_ok]
 cases hd:oH d
 ·rw [hd] at hv
  simp at hv⊢
  rw [hv]
  rfl
 ·rw [hd] at hv
  simp at hv⊢
  simp only [rr w hk,Result.andThen_ok,hv]
theorem ax.YH {ρ:aL} {cs:Array Value} {x':Value} (h:ax ρ (.agg cs) x'):∃jy,x'=.agg jy∧bF ρ cs.toList jy.toList∧∀x∈cs.toList,gA x=true:=by
 cases h with
 | agg hs h1 h=>exact ⟨_,rfl,bF.tF hs h,h1⟩
theorem aD3 {ρ:aL} {t e:TypeId} {d:TypeDesc} {n:Nat} {x i x' i' v:Value} (ht:P.underlying t=some (.array n e)) (he:P.underlying e=some d) (hk:iK P e=true)
  (h:RZ n (P.cellsOf e) (oH d) x i=some v) (hx:ax ρ x x') (hi:ax ρ i i'):
  ∃v',(Instr.index t x' i').run P w=.ok v' w∧ax ρ v v':=by
 unfold RZ at h
 split at h
 ·rename_i cs k j
  obtain ⟨jy,rfl,hs,h1⟩:=hx.YH
  rw [hi.mE]
  split at h
  ·rename_i h0
   obtain ⟨v',hr,hv⟩:=al9 w he hk h hs h1
   refine ⟨v',?_,hv⟩
   simp [Instr.index,asIntOf,run_underlying ht,h0,rr w hk,hr]
  ·cases h
 ·cases h
theorem aD2 {ρ:aL} {t:TypeId} {fs:Array Field} {f:Nat} {fd:Field} {d:TypeDesc} {x x' v:Value} (ht:P.underlying t=some (.struct fs)) (hf:fs[f]?=some fd) (he:P.underlying fd.type=some d)
  (hk:iK P fd.type=true) (h:zY (oH d) fd.offset (P.cellsOf fd.type) x=some v) (hx:ax ρ x x'):
  ∃v',(Instr.field t x' f).run P w=.ok v' w∧ax ρ v v':=by
 unfold zY at h
 split at h
 ·rename_i cs
  obtain ⟨jy,rfl,hs,h1⟩:=hx.YH
  obtain ⟨v',hr,hv⟩:=al9 w he hk h hs h1
  refine ⟨v',?_,hv⟩
  simp [Instr.field,run_underlying ht,hf,asAgg,hr]
 ·cases h
theorem aDP {ρ:aL} {t e:TypeId} {x i x' i' v:Value} (ht:P.underlying t=some (.slice e)) (hk:iK P e=true)
  (h:a9 (P.cellsOf e) x i=some v) (hx:ax ρ x x') (hi:ax ρ i i'):
  ∃v',(Instr.indexAt t x' i').run P w=.ok v' w∧ax ρ v v':=by
 unfold a9 at h
 split at h
 ·rename_i id o e' n c k j
  split at h
  ·rename_i h0
   simp at h
   subst h
   rw [hi.mE]
   cases hx with
   | slice hr ho hn hc hb=>
    rename_i o' c' r
    have dL:o'=r.sh+o:=by
     rcases ho with ho | ⟨h1,h2,h3⟩
     ·exact ho
     ·omega
    subst dL
    refine ⟨_,?_,ax.ptr hr⟩
    simp [Instr.indexAt,asIntOf,run_underlying ht,h0,rr w hk,Addr.add_lit,Nat.add_assoc]
  ·cases h
 ·cases h
theorem ax.FG {ρ:aL} {id o:Nat} {x':Value} (h:ax ρ (.pointer (some ⟨id,o,none⟩)) x'):∃r,ρ id=some r∧x'=.pointer (some ⟨r.bz,r.sh+o,none⟩):=by
 cases h with
 | ptr hr=>exact ⟨_,hr,rfl⟩
theorem aDO {ρ:aL} {t e:TypeId} {n:Nat} {x i x' i' v:Value} (ht:P.underlying t=some (.array n e)) (hk:iK P e=true)
  (h:kP n (P.cellsOf e) x i=some v) (hx:ax ρ x x') (hi:ax ρ i i'):
  ∃v',(Instr.indexAt t x' i').run P w=.ok v' w∧ax ρ v v':=by
 unfold kP at h
 split at h
 ·rename_i id o k j
  split at h
  ·rename_i h0
   simp at h
   subst h
   rw [hi.mE]
   obtain ⟨r,hr,rfl⟩:=hx.FG
   refine ⟨_,?_,ax.ptr hr⟩
   simp [Instr.indexAt,asIntOf,run_underlying ht,h0,rr w hk,Instr.sureAddr,Addr.add_lit,Nat.add_assoc]
  ·cases h
 ·cases h
theorem aD1 {ρ:aL} {t:TypeId} {fs:Array Field} {f:Nat} {fd:Field} {x x' v:Value} (ht:P.underlying t=some (.struct fs)) (hf:fs[f]?=some fd) (hk:iK P fd.type=true)
  (hz:P.cellsOf fd.type≠0) (h:aM fd.offset x=some v) (hx:ax ρ x x'):
  ∃v',(Instr.fieldAt t x' f).run P w=.ok v' w∧ax ρ v v':=by
 unfold aM at h
 split at h
 ·rename_i id o
  simp at h
  subst h
  obtain ⟨r,hr,rfl⟩:=hx.FG
  refine ⟨_,?_,ax.ptr hr⟩
  simp [Instr.fieldAt,run_underlying ht,hf,Instr.sureAddr,fieldPlace,rr w hk,hz,Addr.add_lit,Nat.add_assoc]
 ·cases h
theorem agl {ρ:aL} {v v':Value} {n:Nat} (h:tu v=some n) (hv:ax ρ v v'):∃k i,v'=.int k i∧0≤i∧i.toNat=n:=by
 unfold tu at h
 split at h
 ·rename_i k i
  rw [hv.mE]
  split at h
  ·rename_i h0
   simp at h
   exact ⟨k,i,rfl,h0,h⟩
  ·cases h
 ·cases h
def yq (ρ:aL):Option Value→Option Value→Prop
 | none,none=>True
 | some a,some b=>ax ρ a b
 | _,_=>False
theorem Ve {ρ:aL} {n cap:Nat} {isSlice:Bool} {lo hi py gu:Option Value} {l h:Nat} (he:rZ n lo hi=some (l,h)) (hc:n≤cap) (eD:yq ρ lo py) (jk:yq ρ hi gu):
  (Instr.sliceBounds isSlice n cap py gu none).run P w=.ok (l,h,cap) w∧l≤h∧h≤n:=by
 unfold rZ at he
 split at he
 ·rename_i l1 h1 hl hh
  split at he
  ·rename_i hb
   simp at he
   obtain ⟨rfl,rfl⟩:=he
   refine ⟨?_,hb.1,hb.2⟩
   have bh:∀(v:Value),gu=some v→∃k i,v=.int k i∧0≤i∧i.toNat=h1:=by
    intro v hv
    subst hv
    cases hi with
    | none=>exact jk.elim
    | some u=>exact agl hh jk
   have bh0:gu=none→h1=n:=by
    intro hv
    subst hv
    cases hi with
    | none=>simpa using hh.symm
    | some u=>exact jk.elim
   have bl:∀(v:Value),py=some v→∃k i,v=.int k i∧0≤i∧i.toNat=l1:=by
    intro v hv
    subst hv
    cases lo with
    | none=>exact eD.elim
    | some u=>exact agl hl eD
   have YW:py=none→l1=0:=by
    intro hv
    subst hv
    cases lo with
    | none=>simpa using hl.symm
    | some u=>exact eD.elim
   unfold Instr.sliceBounds
   cases gu with
   | none=>
    obtain rfl:=bh0 rfl
    cases py with
    | none=>obtain rfl:=YW rfl;simp
    | some v=>
     obtain ⟨k,i,rfl,h0,rfl⟩:=bl v rfl
     have:i≤(h1:Int):=by omega
     simp [Instr.sliceBound,asIntOf,h0,this]
   | some u=>
    obtain ⟨k,i,rfl,h0,rfl⟩:=bh u rfl
    have En:i≤(cap:Int):=by omega
    cases py with
    | none=>obtain rfl:=YW rfl;simp [Instr.sliceBound,asIntOf,h0,En]
    | some v=>
     obtain ⟨k2,j,rfl,h2,rfl⟩:=bl v rfl
     have:j≤i:=by omega
     simp [Instr.sliceBound,asIntOf,h0,En,h2,this,Int.toNat_of_nonneg h0]
  ·cases he
 ·cases he
theorem avN (s:ByteArray) (l h:Nat):s.extract l h=⟨(((bytes s).take h).drop l).toArray⟩:=by
 apply ByteArray.ext
 apply ext'
 simp only [bytes,ByteArray.data_extract,Array.toList_extract,List.drop_take]
theorem aEg {ρ:aL} {t:TypeId} {x x' v:Value} {lo hi py gu:Option Value} (ht:P.underlying t=some .string) (h:lj x lo hi=some v) (hx:ax ρ x x')
  (eD:yq ρ lo py) (jk:yq ρ hi gu):(Instr.sliceAt t x' py gu none).run P w=.ok v w∧ax ρ v v:=by
 unfold lj at h
 split at h
 ·rename_i s
  rw [hx.wJ]
  simp only [map_eq_some_iff,Prod.exists] at h
  obtain ⟨l,u,hb,rfl⟩:=h
  obtain ⟨hr,h1,h2⟩:=Ve (P:=P) w (isSlice:=false) hb (le_refl _) eD jk
  refine ⟨?_,ax.S _ _⟩
  rw [←FN] at hr
  simp [Instr.sliceAt,Instr.slice,run_underlying ht,hr,S,avN]
 ·cases h
theorem aEh {ρ:aL} {t e:TypeId} {x x' v:Value} {lo hi py gu:Option Value} (hH:∀i r,ρ i=some r→r.aW=P.cellsOf r.elem) (ht:P.underlying t=some (.slice e)) (hk:iK P e=true)
  (h:mD e (P.cellsOf e) x lo hi=some v) (hx:ax ρ x x') (eD:yq ρ lo py) (jk:yq ρ hi gu):
  ∃v',(Instr.sliceAt t x' py gu none).run P w=.ok v' w∧ax ρ v v':=by
 unfold mD at h
 split at h
 ·simp only [map_eq_some_iff,Prod.exists] at h
  obtain ⟨l,u,hb,rfl⟩:=h
  obtain ⟨hr,h1,h2⟩:=Ve (P:=P) w (isSlice:=true) hb (le_refl _) eD jk
  cases hx
  refine ⟨_,?_,.rh⟩
  obtain rfl:u=0:=by omega
  obtain rfl:l=0:=by omega
  simp [Instr.sliceAt,Instr.slice,run_underlying ht,hr,rr w hk]
 ·rename_i id o e' n c
  split at h
  ·rename_i QT
   subst QT
   simp only [map_eq_some_iff,Prod.exists] at h
   obtain ⟨l,u,hb,rfl⟩:=h
   cases hx with
   | slice hr ho hn hc BA=>
    rename_i o' c' r
    obtain ⟨gw,h1,h2⟩:=Ve (P:=P) w (isSlice:=true) hb hn eD jk
    have jj:=hH _ _ hr
    by_cases fU:c'=l
    ·refine ⟨.slice (some ⟨r.bz,o',none⟩) (u-l) (c' -l),?_,?_⟩
     ·rw [fU] at gw⊢
      simp [Instr.sliceAt,Instr.slice,run_underlying ht,gw,rr w hk]
     ·refine ax.slice hr ?_ (by omega) (by omega) ?_
      ·rcases Nat.eq_zero_or_pos (l*P.cellsOf r.elem) with hz | hz
       ·rw [hz]
        rcases ho with ho | ⟨q1,q2,q3⟩
        ·exact .inl (by omega)
        ·exact .inr ⟨by omega,by omega,by omega⟩
       ·exact .inr ⟨by omega,by omega,by omega⟩
      ·have:c' -l=0:=by omega
       rw [this]
       have:o'≤o'+c'*r.aW:=Nat.le_add_right _ _
       omega
    ·refine ⟨.slice (some ⟨r.bz,o'+l*P.cellsOf r.elem,none⟩) (u-l) (c' -l),?_,?_⟩
     ·simp [Instr.sliceAt,Instr.slice,run_underlying ht,gw,rr w hk,fU,Addr.add_lit]
     ·refine ax.slice hr ?_ (by omega) (by omega) ?_
      ·rcases ho with ho | ⟨q1,q2,q3⟩
       ·exact .inl (by omega)
       ·exfalso;omega
      ·rw [←jj]
       have e1:l*r.aW+(c' -l)*r.aW=c'*r.aW:=by rw [←add_mul];congr 1;omega
       omega
  ·cases h
 ·cases h
theorem aEe {ρ:aL} {o:Oper} {ox:Operand} {g':Operand→Value} {x v:Value} (ho:o.op=.nilCheck ox) (h:xR x=some v) (hx:ax ρ x (g' ox)):
  ∃v',(execOp g' o).run P w=.ok (.value v') w∧ax ρ v v':=by
 unfold xR at h
 split at h
 ·simp at h
  subst h
  generalize hy:g' ox=y at hx
  have bS:=hx
  cases hx with
  | ptr hr=>
   refine ⟨_,?_,bS⟩
   simp [execOp,ho,hy]
 ·simp at h
  subst h
  generalize hy:g' ox=y at hx
  have bS:=hx
  cases hx with
  | func f a b c d=>
   refine ⟨_,?_,bS⟩
   simp [execOp,ho,hy]
  | yield hr=>
   refine ⟨_,?_,bS⟩
   simp [execOp,ho,hy]
 ·cases h
theorem aD0 {ρ:aL} {x x' v:Value} {i:Nat} (h:ca i x=some v) (hx:ax ρ x x'):∃v',(Instr.extract x' i).run P w=.ok v' w∧ax ρ v v':=by
 unfold ca at h
 split at h
 ·cases hx with
  | tuple hs hr=>
   obtain ⟨y,hy,hv⟩:=(bF.tF hs hr).get (k:=i) (x:=v) (by simpa using h)
   refine ⟨y,?_,hv⟩
   simp only [getElem?_toList] at hy
   simp [Instr.extract,hy]
 ·cases h
end
theorem bF.Ar {ρ:aL} {g g':Operand→Value} (hg:∀x,jC x=true→ax ρ (g x) (g' x)):∀{xs:List Operand},xs.all jC=true→bF ρ (xs.map g) (xs.map g')
 | [],_=>.nil
 | x::xs,h=>by
  simp at h
  exact .cons (hg x h.1) (bF.Ar hg (by simpa using h.2))
end
section
theorem aEp (l:List Value) (o:Nat) (v:Value) (vs:List Value) (h:o<l.length):setAt (l.set o v) (o+1) vs=setAt l o (v::vs):=by
 have e:l.set o v=l.take o++v::l.drop (o+1):=by rw [List.set_eq_take_append_cons_drop,if_pos h]
 have hl:(l.take o).length=o:=by simp;omega
 unfold setAt
 have e1:(l.set o v).take (o+1)=l.take o++[v]:=by
  rw [e,List.take_append,hl,List.take_of_length_le (by omega)]
  simp
 have e2:(l.set o v).drop (o+1+vs.length)=l.drop (o+(v::vs).length):=by
  rw [List.drop_set,if_pos (by omega)]
  congr 1
  simp
  omega
 rw [e1,e2]
 simp
theorem aEt (vs:List Value):∀(off i:Nat) (cs:Array Value),off+i+vs.length≤cs.size→
  ((vs.zipIdx i).foldl (fun cs (c,j)=>cs.setIfInBounds (off+j) c) cs).toList=setAt cs.toList (off+i) vs:=by
 induction vs with
 | nil=>intro off i cs h;simp [setAt]
 | cons v vs ih=>
  intro off i cs h
  simp only [List.zipIdx_cons,List.foldl_cons]
  rw [ih off (i+1) _ (by simp at h⊢;omega)]
  rw [Array.toList_setIfInBounds,show off+(i+1)=off+i+1 by omega]
  exact aEp _ _ _ _ (by simp at h⊢;omega)
theorem aEs {ρ:aL} {xs ys:List Value} (h:bF ρ xs ys) {o:Nat} {vs ju:List Value} (hv:bF ρ vs ju):bF ρ (setAt xs o vs) (setAt ys o ju):=by
 unfold setAt
 rw [←hv.length]
 exact ((h.take o).append hv).append (h.drop _)
theorem aEq {xs:List Value} {o:Nat} {vs:List Value} {p:Value→Prop} (h:∀x∈xs,p x) (hv:∀x∈vs,p x):∀x∈setAt xs o vs,p x:=by
 intro x hx
 unfold setAt at hx
 simp only [List.mem_append] at hx
 rcases hx with (hx | hx) | hx
 ·exact h x (List.mem_of_mem_take hx)
 ·exact hv x hx
 ·exact h x (List.mem_of_mem_drop hx)
inductive ve (ρ:aL) (place:Nat→Option (Nat×Nat)):List (Nat×Nat×Value)→List (Nat×Value)→Prop
 | nil:ve ρ place [] []
 | cons {o s i:Nat} {v v':Value} {ps:List (Nat×Nat×Value)} {qs:List (Nat×Value)}:place i=some (o,s)→ax ρ v v'→ve ρ place ps qs→ve ρ place ((o,s,v)::ps) ((i,v')::qs)
theorem Qe {ρ:aL} {place:Nat→Option (Nat×Nat)} {ps:List (Nat×Nat×Value)} {qs:List (Nat×Value)} (hp:ve ρ place ps qs):
  ∀{xs cs:List Value} {ys:Array Value},sN xs ps=some cs→bF ρ xs ys.toList→(∀x∈xs,gA x=true)→
   ∃jy,Instr.fill place ys qs=some jy∧bF ρ cs jy.toList∧(∀x∈cs,gA x=true)∧cs.length=xs.length:=by
 induction hp with
 | nil=>
  intro xs cs ys h hs h1
  simp [sN] at h
  subst h
  exact ⟨ys,by simp [Instr.fill],hs,h1,rfl⟩
 | cons m9 hv _ ih=>
  rename_i o s i v v' ps qs _
  intro xs cs ys h hs h1
  simp only [sN] at h
  split at h
  ·rename_i hc
   obtain ⟨ht,hl,ho⟩:=hc
   have B5:=hv.cells ht
   have lR:v'.cells.size=s:=by rw [←hl,B5.length];simp [de]
   have kn:o+v'.cells.size≤ys.size:=by have:=hs.length;simp at this;omega
   have Em:=aEt (de v') o 0 ys (by simp [de];omega)
   simp only [Nat.add_zero] at Em
   have xu:v'.cells.zipIdx.foldl (fun cs x=>cs.setIfInBounds (o+x.2) x.1) ys=(setAt ys.toList o (de v')).toArray:=by
    apply ext'
    rw [←Em,←Array.foldl_toList]
    simp [de,Array.toList_zipIdx]
   obtain ⟨jy,hf,hr,h2,hlen⟩:=ih (ys:=(setAt ys.toList o (de v')).toArray) h (by simpa using aEs hs B5) (aEq h1 (hv.Ik ht))
   refine ⟨jy,?_,hr,h2,?_⟩
   ·unfold Instr.fill
    simp only [m9]
    rw [if_neg (by simp [lR];omega)]
    rw [←hf,←xu]
   ·rw [hlen]
    simp [setAt]
    omega
  ·cases h
theorem CZ {P:Program} {t:TypeId} {zs:List Value} (h:zeroOf P t=some zs):
  ∃i z,P.info? t=some i∧i.zero=some z∧zs=de z∧iM z=true∧(∀x∈zs,mm x=true∧gA x=true)∧zs.length=i.size:=by
 unfold zeroOf at h
 split at h
 ·rename_i i hi
  split at h
  ·rename_i z hz
   split at h
   ·rename_i hc
    simp at h
    subst h
    simp only [and_eq_true,all_eq_true,Bf,beq_iff_eq] at hc
    exact ⟨i,z,hi,hz,rfl,hc.1.1,fun x hx=>hc.1.2 x hx,hc.2⟩
   ·cases h
  ·cases h
 ·cases h
theorem bF.closed {ρ:aL}:∀{zs:List Value},(∀x∈zs,mm x=true)→bF ρ zs zs
 | [],_=>.nil
 | x::zs,h=>.cons (mm.rel (h x (by simp))) (bF.closed fun y hy=>h y (by simp [hy]))
section
variable {P : Program} (w : World)
theorem AF {t:TypeId} {i:TypeInfo} {z:Value} (hi:P.info? t=some i) (hz:i.zero=some z):(zeroValue t).run P w=.ok z w:=by
 simp [zeroValue,typeInfo,hi,hz]
theorem amc:∀(fs:List Field),(∀f∈fs,iK P f.type=true)→
  (fs.mapM (m:=Sem) fun f=>do pure (f.offset,←sizeOf f.type)).run P w=.ok (fs.map fun f=>(f.offset,P.cellsOf f.type)) w
 | [],_=>rfl
 | f::fs,h=>by
  have ih:=amc fs (fun g hg=>h g (by simp [hg]))
  simp only [List.mapM_cons,Sem.run_bind,rr w (h f (by simp)),Result.andThen_ok,Sem.run_pure,ih,List.map_cons]
end
end
section
section
variable {P : Program} (w : World) {ρ : aL} {g g' : Operand → Value}
theorem Ka (hg:∀x,jC x=true→ax ρ (g x) (g' x)) (l:Option Operand) (h:l.toArray.all jC=true):yq ρ (l.map g) (l.map g'):=by
 cases l with
 | none=>trivial
 | some x=>exact hg x (by simpa using h)
theorem akO (hg:∀x,jC x=true→ax ρ (g x) (g' x)) (place:Nat→Option (Nat×Nat)):∀(qs:List (Nat×Operand)) (ps:List (Nat×Nat×Operand)),
  qs.mapM (m:=Option) (fun (i,x)=>(place i).map fun (o,s)=>(o,s,x))=some ps→(∀q∈qs,jC q.2=true)→
  ve ρ place (ps.map fun (o,s,x)=>(o,s,g x)) (qs.map fun (i,x)=>(i,g' x))
 | [],ps,h,_=>by
  simp at h
  subst h
  exact .nil
 | (i,x)::qs,ps,h,hq=>by
  simp only [List.mapM_cons,Option.bind_eq_bind,bind_eq_some_iff] at h
  obtain ⟨p,hp,ps',BU,h⟩:=h
  simp at h
  subst h
  simp only [map_eq_some_iff] at hp
  obtain ⟨⟨o,s⟩,m9,rfl⟩:=hp
  exact .cons m9 (hg x (hq (i,x) (by simp))) (akO hg place qs ps' BU fun q hm=>hq q (by simp [hm]))
theorem UE (hg:∀x,jC x=true→ax ρ (g x) (g' x)) (pl:Nat→Nat×Nat):∀(qs:List (Nat×Operand)),(∀q∈qs,jC q.2=true)→
  ve ρ (fun i=>some (pl i)) ((qs.map fun (i,x)=>((pl i).1,(pl i).2,x)).map fun (o,s,x)=>(o,s,g x)) (qs.map fun (i,x)=>(i,g' x))
 | [],_=>.nil
 | (i,x)::qs,hq=>.cons rfl (hg x (hq (i,x) (by simp))) (UE hg pl qs fun q hm=>hq q (by simp [hm]))
theorem aDW {t:TypeId} {fs:Array Field} {zs:List Value} {ps:List (Nat×Nat×Value)} {qs:Array (Nat×Value)} {v:Value} (ht:P.underlying t=some (.struct fs)) (hz:zeroOf P t=some zs)
  (hk:∀f∈fs.toList,iK P f.type=true) (hp:ve ρ ((placesOf P fs)[·]?) ps qs.toList) (h:dh zs ps=some v):
  ∃v',(Instr.build t qs).run P w=.ok v' w∧ax ρ v v':=by
 obtain ⟨i,z,hi,qW,rfl,oF,fU,hlen⟩:=CZ hz
 simp only [dh,map_eq_some_iff] at h
 obtain ⟨cs,hf,rfl⟩:=h
 obtain ⟨jy,BK,hr,h1,_⟩:=Qe (ys:=z.cells) hp hf (bF.closed fun x hx=>(fU x hx).1) (fun x hx=>(fU x hx).2)
 refine ⟨.agg jy,?_,?_⟩
 ·have hm:=amc (P:=P) w fs.toList hk
  have fL:(fs.mapM (m:=Sem) fun f=>do pure (f.offset,←sizeOf f.type)).run P w=.ok (fs.toList.map fun f=>(f.offset,P.cellsOf f.type)).toArray w:=by
   rw [Array.mapM_eq_mapM_toList]
   simp only [Sem.run_map,hm,Result.andThen_ok]
  have m9:(fun (x:Nat)=>((fs.toList.map fun f=>(f.offset,P.cellsOf f.type)).toArray)[x]?)=((placesOf P fs)[·]?):=by
   funext x
   simp [placesOf]
  simp only [Instr.build,Sem.run_bind,AF w hi qW,Result.andThen_ok,run_underlying ht,fL]
  rw [m9,BK]
  simp
 ·have:=ax.yB (ρ:=ρ) hr h1
  simpa using this
theorem aDV {t e:TypeId} {n:Nat} {zs:List Value} {ps:List (Nat×Nat×Value)} {qs:Array (Nat×Value)} {v:Value} (ht:P.underlying t=some (.array n e)) (hz:zeroOf P t=some zs)
  (hk:iK P e=true) (hp:ve ρ (fun i=>some (i*P.cellsOf e,P.cellsOf e)) ps qs.toList) (h:dh zs ps=some v):
  ∃v',(Instr.build t qs).run P w=.ok v' w∧ax ρ v v':=by
 obtain ⟨i,z,hi,qW,rfl,oF,fU,hlen⟩:=CZ hz
 simp only [dh,map_eq_some_iff] at h
 obtain ⟨cs,hf,rfl⟩:=h
 obtain ⟨jy,BK,hr,h1,_⟩:=Qe (ys:=z.cells) hp hf (bF.closed fun x hx=>(fU x hx).1) (fun x hx=>(fU x hx).2)
 refine ⟨.agg jy,?_,?_⟩
 ·simp only [Instr.build,Sem.run_bind,AF w hi qW,Result.andThen_ok,run_underlying ht,rr w hk]
  rw [BK]
  simp
 ·have:=ax.yB (ρ:=ρ) hr h1
  simpa using this
theorem avT {fn:Func} (h:fn.name= "internal/bytealg.IndexByteString"):Extern.find fn=some Extern.BytealgIndexByte.indexByte:=by
 unfold Extern.find
 rw [h]
 rfl
theorem avM {f:FuncId} (h:P8 P f=true):∃fn,P.funcs[f]?=some fn∧(fn.name== "runtime.NumGoroutine")=false∧fn.body.isNone=true∧Extern.findNext fn=none∧Extern.find fn=some Extern.BytealgIndexByte.indexByte:=by
 unfold P8 at h
 split at h
 ·rename_i fn hf
  simp only [and_eq_true,beq_iff_eq] at h
  obtain ⟨⟨h1,h2⟩,h3⟩:=h
  exact ⟨fn,hf,by rw [h2];decide,h1,by simpa using h3,avT h2⟩
 ·cases h
theorem aAi {o:Oper} {po:qy} (hc:iU P o.op=some po) (aH:o.op.operands.all jC=true) (hH:∀i r,ρ i=some r→r.aW=P.cellsOf r.elem)
  (hg:∀x,jC x=true→ax ρ (g x) (g' x)) {v:Value} (hi:jB po g=some v):∃v',(execOp g' o).run P w=.ok (.value v') w∧ax ρ v v':=by
 cases ho:o.op with
 | move x=>
  rw [ho] at hc aH
  simp [iU] at hc;subst hc
  simp [Op.operands] at aH
  simp [jB] at hi;subst hi
  exact ⟨g' x,by simp [execOp,ho],hg x aH⟩
 | assign x=>
  rw [ho] at hc aH
  simp [iU] at hc;subst hc
  simp [Op.operands] at aH
  simp [jB] at hi;subst hi
  exact ⟨g' x,by simp [execOp,ho],hg x aH⟩
 | pick c a b=>
  rw [ho] at hc aH
  simp [iU] at hc;subst hc
  simp [Op.operands] at aH
  simp only [jB,bX] at hi
  split at hi
  ·rename_i t ht
   have hcb:=hg c aH.1
   rw [ht] at hcb
   simp at hi;subst hi
   refine ⟨if t then g' a else g' b,by simp [execOp,ho,hcb.yJ,asBool],?_⟩
   cases t
   ·simpa using hg b aH.2.2
   ·simpa using hg a aH.2.1
  ·cases hi
 | binOp op t x y yt=>
  rw [ho] at hc aH
  simp [Op.operands] at aH
  have hx:=hg x aH.1
  have hy:=hg y aH.2
  simp only [iU] at hc
  have fin:∀v',(do eqGuard op t x y (g' x) (g' y);binOp op t (g' x) (g' y):Sem Value).run P w=.ok v' w→(execOp g' o).run P w=.ok (.value v') w:=by
   intro v' h
   simp only [execOp,ho]
   simp only [Sem.run_bind] at h⊢
   rw [h]
   rfl
  split at hc
  ·simp at hc;subst hc
   obtain ⟨h1,h2⟩:=al3 P w (op:=.eql) t x y ‹_› rfl hi hx hy
   exact ⟨v,fin v h1,h2⟩
  ·simp at hc;subst hc
   obtain ⟨h1,h2⟩:=al3 P w (op:=.neq) t x y ‹_› rfl hi hx hy
   exact ⟨v,fin v h1,h2⟩
  ·simp at hc;subst hc
   obtain ⟨h1,h2⟩:=al4 P w (op:=.eql) t x y ‹_› rfl hi hx hy
   exact ⟨v,fin v h1,h2⟩
  ·simp at hc;subst hc
   obtain ⟨h1,h2⟩:=al4 P w (op:=.neq) t x y ‹_› rfl hi hx hy
   exact ⟨v,fin v h1,h2⟩
  ·simp at hc;subst hc
   obtain ⟨h1,h2⟩:=aDT P w t x y hi hx hy
   exact ⟨v,fin v h1,h2⟩
 | unOp op t x=>
  rw [ho] at hc aH
  simp [iU] at hc;subst hc
  simp [Op.operands] at aH
  obtain ⟨h1,h2⟩:=aEk P w hi (hg x aH)
  exact ⟨v,by simp [execOp,ho,h1],h2⟩
 | convert s d x=>
  rw [ho] at hc aH
  simp [Op.operands] at aH
  simp only [iU] at hc
  split at hc
  ·rename_i k0 k hs hd
   simp at hc;subst hc
   simp only [jB,c8] at hi
   split at hi
   ·rename_i k1 n hx
    have:=hg x aH
    rw [hx] at this
    simp at hi;subst hi
    refine ⟨_,?_,.int _ _⟩
    simp [execOp,ho,this.mE,convert,run_underlying hs,run_underlying hd,Conv.intToInt]
   ·cases hi
  ·rename_i hs hd
   simp at hc;subst hc
   simp only [jB,ae0] at hi
   split at hi
   ·rename_i z hx
    have:=hg x aH
    rw [hx] at this
    simp at hi;subst hi
    refine ⟨_,?_,.string _⟩
    simp [execOp,ho,this.wJ,convert,run_underlying hs,run_underlying hd]
   ·cases hi
  ·cases hc
 | indexAddr t x i=>
  rw [ho] at hc aH
  simp [Op.operands] at aH
  simp only [iU] at hc
  split at hc
  ·rename_i e ht
   split at hc
   ·rename_i hk
    simp at hc;subst hc
    obtain ⟨v',h1,h2⟩:=aDP w ht hk hi (hg x aH.1) (hg i aH.2)
    exact ⟨v',by simp [execOp,ho,h1],h2⟩
   ·cases hc
  ·rename_i n e ht
   split at hc
   ·rename_i hk
    simp at hc;subst hc
    obtain ⟨v',h1,h2⟩:=aDO w ht hk hi (hg x aH.1) (hg i aH.2)
    exact ⟨v',by simp [execOp,ho,h1],h2⟩
   ·cases hc
  ·cases hc
 | index t x i=>
  rw [ho] at hc aH
  simp [Op.operands] at aH
  simp only [iU] at hc
  split at hc
  ·rename_i ht
   simp at hc;subst hc
   obtain ⟨h1,h2⟩:=aD4 w ht hi (hg x aH.1) (hg i aH.2)
   exact ⟨v,by simp [execOp,ho,h1],h2⟩
  ·rename_i n e ht
   split at hc
   ·rename_i d hd
    split at hc
    ·rename_i hk
     simp at hc;subst hc
     simp only [and_eq_true] at hk
     obtain ⟨v',h1,h2⟩:=aD3 w ht hd hk.1 hi (hg x aH.1) (hg i aH.2)
     exact ⟨v',by simp [execOp,ho,h1],h2⟩
    ·cases hc
   ·cases hc
  ·cases hc
 | fieldAddr t x f=>
  rw [ho] at hc aH
  simp [Op.operands] at aH
  simp only [iU] at hc
  split at hc
  ·rename_i fs ht
   split at hc
   ·rename_i fd hf
    split at hc
    ·rename_i hk
     simp at hc;subst hc
     simp only [and_eq_true,bne_iff_ne] at hk
     obtain ⟨v',h1,h2⟩:=aD1 w ht hf hk.1 hk.2 hi (hg x aH)
     exact ⟨v',by simp [execOp,ho,h1],h2⟩
    ·cases hc
   ·cases hc
  ·cases hc
 | field t x f=>
  rw [ho] at hc aH
  simp [Op.operands] at aH
  simp only [iU] at hc
  split at hc
  ·rename_i fs ht
   split at hc
   ·rename_i fd hf
    split at hc
    ·rename_i d hd
     split at hc
     ·rename_i hk
      simp at hc;subst hc
      simp only [and_eq_true] at hk
      obtain ⟨v',h1,h2⟩:=aD2 w ht hf hd hk.1 hi (hg x aH)
      exact ⟨v',by simp [execOp,ho,h1],h2⟩
     ·cases hc
    ·cases hc
   ·cases hc
  ·cases hc
 | slice t x lo gu mx=>
  rw [ho] at hc aH
  simp only [iU] at hc
  split at hc
  ·rename_i ht
   simp at hc;subst hc
   simp only [Op.operands,Array.all_append,and_eq_true] at aH
   obtain ⟨⟨⟨h0,h1⟩,h2⟩,_⟩:=aH
   obtain ⟨k1,k2⟩:=aEg w ht hi (hg x (by simpa using h0)) (Ka hg lo h1) (Ka hg gu h2)
   exact ⟨v,by simp [execOp,ho,k1],k2⟩
  ·rename_i e ht
   split at hc
   ·rename_i hk
    simp at hc;subst hc
    simp only [Op.operands,Array.all_append,and_eq_true] at aH
    obtain ⟨⟨⟨h0,h1⟩,h2⟩,_⟩:=aH
    obtain ⟨v',k1,k2⟩:=aEh w hH ht hk hi (hg x (by simpa using h0)) (Ka hg lo h1) (Ka hg gu h2)
    exact ⟨v',by simp [execOp,ho,k1],k2⟩
   ·cases hc
  ·cases hc
 | nilCheck x=>
  rw [ho] at hc aH
  simp [iU] at hc;subst hc
  simp [Op.operands] at aH
  exact aEe w ho hi (hg x aH)
 | makeFunc fn first captured=>
  rw [ho] at hc aH
  cases fn with
  | func f=>
   simp [iU] at hc;subst hc
   simp only [Op.operands,Array.all_append,and_eq_true] at aH
   simp [jB] at hi;subst hi
   have h1:=bF.Ar hg (xs:=first.toList) (by simpa using aH.1)
   have h2:=bF.Ar hg (xs:=captured.toList) (by simpa using aH.2)
   refine ⟨.func (.func f) (first.map g') (captured.map g'),by simp [execOp,ho,Instr.makeFunc],?_⟩
   refine .func f (by simp) (by simp) ?_ ?_
   ·have:=h1.ofList
    simpa using this
   ·have:=h2.ofList
    simpa using this
  | _=>simp [iU] at hc
 | extract x i=>
  rw [ho] at hc aH
  simp [iU] at hc;subst hc
  simp [Op.operands] at aH
  obtain ⟨v',h1,h2⟩:=aD0 (P:=P) w hi (hg x aH)
  exact ⟨v',by simp [execOp,ho,h1],h2⟩
 | build t parts=>
  rw [ho] at hc aH
  simp only [iU] at hc
  simp only [Op.operands] at aH
  have hq:∀q∈parts.toList,jC q.2=true:=by
   intro q hm
   rw [Array.all_eq_true'] at aH
   exact aH q.2 (by simp;exact ⟨q.1,by simpa using hm⟩)
  split at hc
  ·rename_i fs zs ht hz
   split at hc
   ·rename_i hk
    split at hc
    ·rename_i ps BU
     simp at hc;subst hc
     have hp:=akO hg ((placesOf P fs)[·]?) parts.toList ps BU hq
     have b9:∀f∈fs.toList,iK P f.type=true:=by
      rw [Array.all_eq_true'] at hk
      intro f hf
      exact hk f (by simpa using hf)
     obtain ⟨v',h1,h2⟩:=aDW w ht hz b9 (qs:=parts.map fun (i,x)=>(i,g' x)) (by simpa using hp) hi
     exact ⟨v',by simp [execOp,ho,h1],h2⟩
    ·cases hc
   ·cases hc
  ·rename_i n e zs ht hz
   split at hc
   ·rename_i hk
    simp at hc;subst hc
    have hp:=UE hg (fun i=>(i*P.cellsOf e,P.cellsOf e)) parts.toList hq
    obtain ⟨v',h1,h2⟩:=aDV w ht hz hk (qs:=parts.map fun (i,x)=>(i,g' x)) (by simpa using hp) hi
    exact ⟨v',by simp [execOp,ho,h1],h2⟩
   ·cases hc
  ·cases hc
 | call c=>
  rw [ho] at hc aH
  obtain ⟨callee,args,argTypes⟩:=c
  cases callee with
  | builtin b=>
   simp only [Op.operands,Call.operands,Array.empty_append] at aH
   have sR:=bF.Ar hg (xs:=args.toList) (by simpa using aH)
   have fin:∀v',(∀Bi,(builtin b argTypes o.type Bi (args.map g')).run P w=.ok (.value v') w)→(execOp g' o).run P w=.ok (.value v') w:=by
    intro v' h
    simp [execOp,ho,resolve,invoke,h]
   cases b with
   | len=>
    simp only [iU] at hc
    split at hc
    ·rename_i x t hx vY
     obtain rfl:args=#[x]:=ext' hx
     obtain rfl:argTypes=#[t]:=ext' vY
     simp at aH
     have hr:=hg x aH
     split at hc
     ·rename_i ht
      simp at hc;subst hc
      simp only [jB,gy] at hi
      split at hi
      ·rename_i s hs
       rw [hs] at hr
       simp at hi;subst hi
       refine ⟨_,fin _ ?_,.int _ _⟩
       intro Bi
       simp [builtin,Builtin.len_,run_underlying ht,hr.wJ,goInt,FN]
      ·cases hi
     ·rename_i e ht
      simp at hc;subst hc
      simp only [jB,bj] at hi
      split at hi
      ·rename_i a n c hs
       rw [hs] at hr
       simp at hi;subst hi
       refine ⟨_,fin _ ?_,.int _ _⟩
       intro Bi
       generalize hy:g' x=y at hr
       cases hr <;> simp [builtin,Builtin.len_,run_underlying ht,hy,goInt]
      ·cases hi
     ·rename_i n e ht
      simp at hc;subst hc
      simp [jB] at hi;subst hi
      refine ⟨_,fin _ ?_,.int _ _⟩
      intro Bi
      simp [builtin,Builtin.len_,run_underlying ht,goInt]
     ·cases hc
    ·cases hc
   | min=>
    simp [iU] at hc;subst hc
    simp only [jB,xQ] at hi
    split at hi
    ·rename_i k n rest hl
     rw [hl] at sR
     generalize hy:args.toList.map g'=ys at sR
     cases sR with
     | cons h1 h2=>
      rename_i y0 ys0
      have e:=h1.mE
      subst e
      obtain ⟨k1,k2⟩:=Vh (P:=P) w hi h2
      refine ⟨v,fin v ?_,k2⟩
      intro Bi
      simp only [builtin,Sem.run_bind,Builtin.min_,Array.toList_map,hy]
      simp at k1
      rw [k1]
      rfl
    ·cases hi
   | max=>
    simp [iU] at hc;subst hc
    simp only [jB,xQ] at hi
    split at hi
    ·rename_i k n rest hl
     rw [hl] at sR
     generalize hy:args.toList.map g'=ys at sR
     cases sR with
     | cons h1 h2=>
      rename_i y0 ys0
      have e:=h1.mE
      subst e
      obtain ⟨k1,k2⟩:=Vh (P:=P) w hi h2
      refine ⟨v,fin v ?_,k2⟩
      intro Bi
      simp only [builtin,Sem.run_bind,Builtin.max_,Array.toList_map,hy]
      simp at k1
      rw [k1]
      rfl
    ·cases hi
   | _=>simp [iU] at hc
  | value y=>
   cases y with
   | func f=>
    simp only [iU] at hc
    split at hc
    ·rename_i x c hx
     split at hc
     ·rename_i hf
      simp at hc;subst hc
      obtain rfl:args=#[x,c]:=ext' hx
      simp [Op.operands,Call.operands] at aH
      simp only [jB] at hi
      split at hi
      ·rename_i f' a b hgf
       split at hi
       ·rename_i hX
        obtain ⟨rfl,ha,hb⟩:=hX
        obtain rfl:=Array.eq_empty_of_size_eq_zero ha
        obtain rfl:=Array.eq_empty_of_size_eq_zero hb
        have h0:=hg (.func f') aH.1
        rw [hgf] at h0
        generalize hy:g' (.func f')=y at h0
        cases h0 with
        | func _ s1 s2 _ _=>
         rename_i xs' AQ
         obtain rfl:=Array.eq_empty_of_size_eq_zero s1.symm
         obtain rfl:=Array.eq_empty_of_size_eq_zero s2.symm
         simp only [EU] at hi
         split at hi
         ·rename_i s n hs hn
          injection hi with hi
          subst hi
          have h1:=hg x aH.2.1
          have h2:=hg c aH.2.2
          rw [hs] at h1
          rw [hn] at h2
          have e1:=h1.wJ
          have e2:=h2.mE
          refine ⟨_,?_,.int _ _⟩
          obtain ⟨fn,q1,q2,q3,q4,q5⟩:=avM hf
          have:=run_callFunc_extern (P:=P) q1 q2 q3 q4 q5 #[.string s,.int .u8 n] w
          simp [execOp,ho,resolve,Deferred.ofValue,invoke,hy,e1,e2]
          rw [this,Lib.run_indexByteString]
          rfl
         ·cases hi
       ·cases hi
      ·cases hi
     ·cases hc
    ·cases hc
   | _=>simp [iU] at hc
  | _=>simp [iU] at hc
 | _=>rw [ho] at hc;simp [iU] at hc
end
end
section
theorem fY.mono {ρ av:aL} (h:ρ.le av) {c:Array Value} {sh:Nat} {xs:List Value} (hc:fY ρ c sh xs):fY av c sh xs:=by
 intro j x hj
 obtain ⟨h1,y,hy,hr⟩:=hc j x hj
 exact ⟨h1,y,hy,hr.mono h⟩
theorem lE.mono {ρ av:aL} {w w':World} {r:RI} {o:aq} (hle:ρ.le av) (hw:w'.heap[r.bz]?=w.heap[r.bz]?) (h:lE ρ w r o):lE av w' r o:=by
 cases o with
 | ro e xs=>
  obtain ⟨h1,c,t,fr,h2,h3,h4⟩:=h
  exact ⟨h1,c,t,fr,by rw [hw];exact h2,h3,h4.mono hle⟩
 | arr e xs=>
  obtain ⟨h1,h0,c,h2,h3,h4⟩:=h
  exact ⟨h1,h0,c,by rw [hw];exact h2,h3,h4.mono hle⟩
 | smap es=>
  obtain ⟨aK,clock,h1,h2,h3⟩:=h
  refine ⟨aK,clock,by rw [hw];exact h1,h2,?_⟩
  intro j k v hj
  obtain ⟨en,he,hk,hv⟩:=h3 j k v hj
  exact ⟨en,he,hk,hv.mono hle⟩
 | kQ kd es=>
  obtain ⟨aK,clock,h1,h2,h3⟩:=h
  refine ⟨aK,clock,by rw [hw];exact h1,h2,?_⟩
  intro j k v hj
  obtain ⟨en,he,hk,hv⟩:=h3 j k v hj
  exact ⟨en,he,hk,hv.mono hle⟩
 | di g c es=>
  obtain ⟨h0,aK,h1,h2,h3⟩:=h
  refine ⟨h0,aK,by rw [hw];exact h1,h2,?_⟩
  intro j b k v hj
  obtain ⟨hg,en,he,hk,hb,hv⟩:=h3 j b k v hj
  exact ⟨hg,en,he,hk,hb,hv.mono hle⟩
 | iter m s n l=>
  obtain ⟨h0,rm,h1,h2⟩:=h
  exact ⟨h0,rm,hle _ _ h1,by rw [hw];exact h2⟩
 | loop c ls vs=>
  obtain ⟨rec,h1,h2,h3,h4,h5,h6,h7,h8⟩:=h
  exact ⟨rec,by rw [hw];exact h1,h2,h3,h4,h5,h6,h7,fun t=>(h8 t).mono hle⟩
 | dead=>trivial
def aL.add (ρ:aL) (i:Nat) (r:RI):aL:=fun j=>if j=i then some r else ρ j
theorem aL.wz {ρ:aL} {i:Nat} {r:RI} (h:ρ i=none):ρ.le (ρ.add i r):=by
 intro j s hj
 unfold aL.add
 split
 ·rename_i e;subst e;rw [h] at hj;cases hj
 ·exact hj
theorem aY.none {P:Program} {ρ:aL} {h:ae} {w:World} (H:aY P ρ h w):ρ h.length=none:=by
 cases hr:ρ h.length with
 | none=>rfl
 | some r=>exact absurd (H.lt hr) (Nat.lt_irrefl _)
theorem Cp {P:Program} {ρ:aL} {h:ae} {w:World} (H:aY P ρ h w) {i:Nat} {r:RI} (hi:ρ i=some r) (hl:eR h i):r.bz<w.heap.size:=by
 obtain ⟨o,ho,hr⟩:=H.obj i r hi
 obtain ⟨o',dL,bk⟩:=hl
 rw [ho] at dL
 cases dL
 have key:∀{x:Obj},w.heap[r.bz]?=some x→r.bz<w.heap.size:=fun h=>(Array.getElem?_eq_some_iff.1 h).1
 cases o with
 | ro e xs=>obtain ⟨_,c,_,fr,h2,_⟩:=hr;exact key h2
 | arr e xs=>obtain ⟨_,_,c,h2,_⟩:=hr;exact key h2
 | smap es=>obtain ⟨aK,clock,h1,_⟩:=hr;exact key h1
 | kQ kd es=>obtain ⟨aK,clock,h1,_⟩:=hr;exact key h1
 | di g c es=>obtain ⟨_,aK,h1,_⟩:=hr;exact key h1
 | iter m s n l=>obtain ⟨_,rm,_,h1⟩:=hr;exact key h1
 | loop c ls vs=>obtain ⟨rec,h1,_⟩:=hr;exact key h1
 | dead=>exact absurd rfl bk
structure jU (w:World) (b:Obj) (w':World):Prop where
 heap:w'.heap=w.heap.push b
 os:w'.os=w.os
 tape:w'.tape=w.tape
 output:w'.output=w.output
theorem jU.alloc (w:World) (b:Obj):jU w b (w.alloc b):=⟨rfl,rfl,rfl,rfl⟩
theorem jU.drew (w:World) (b:Obj):jU w b (w.drew.alloc b):=⟨rfl,rfl,rfl,rfl⟩
theorem jU.old {w w':World} {b:Obj} (n:jU w b w') {k:Nat} (h:k<w.heap.size):w'.heap[k]?=w.heap[k]?:=by
 rw [n.heap,Array.getElem?_push,if_neg (by omega)]
theorem jU.new {w w':World} {b:Obj} (n:jU w b w'):w'.heap[w.heap.size]?=some b:=by
 rw [n.heap,Array.getElem?_push,if_pos rfl]
theorem jU.size {w w':World} {b:Obj} (n:jU w b w'):w'.heap.size=w.heap.size+1:=by
 rw [n.heap];simp
theorem aY.new {P:Program} {ρ:aL} {h h₀:ae} {w w':World} {b:Obj} {r:RI} {o:aq} (H:aY P ρ h w) (nb:jU w b w') (hb:r.bz=w.heap.size) (he:r.aW=P.cellsOf r.elem)
  (hk:h₀.length=h.length) (hd:∀i:Nat,h₀[i]?=h[i]?∨h₀[i]?=some aq.dead)
  (ho:lE (ρ.add h.length r) w' r o):aY P (ρ.add h.length r) (h₀++[o]) w'∧Tr ρ h w (ρ.add h.length r) (h₀++[o]) w':=by
 have hle:=aL.wz (r:=r) H.none
 have jm:∀i,i<h.length→cA (h₀++[o]) i→cA h i:=by
  intro i hi hm
  unfold cA at hm⊢
  rw [getElem?_append_left (by omega)] at hm
  rcases hd i with e | e <;> rw [e] at hm
  ·exact hm
  ·rcases hm with ⟨_,_,hm⟩ | ⟨_,hm⟩ | ⟨_,_,_,hm⟩ | ⟨_,_,hm⟩ | ⟨_,_,_,hm⟩ | ⟨_,_,_,_,hm⟩ <;> cases hm
 have zE:∀i,i<h.length→eR (h₀++[o]) i→eR h i:=by
  intro i hi hm
  unfold eR at hm⊢
  rw [getElem?_append_left (by omega)] at hm
  rcases hd i with e | e <;> rw [e] at hm
  ·exact hm
  ·obtain ⟨o',h1,h2⟩:=hm;cases h1;exact absurd rfl h2
 have bz:∀i s,ρ i=some s→eR (h₀++[o]) i→s.bz<w.heap.size:=fun i s hi hl=>Cp H hi (zE i (H.lt hi) hl)
 constructor
 ·constructor
  ·intro i s hi
   unfold aL.add at hi
   split at hi
   ·rename_i e
    subst e
    cases hi
    refine ⟨o,?_,ho⟩
    rw [←hk]
    simp
   ·obtain ⟨o',dL,hr⟩:=H.obj i s hi
    have aD:=H.lt hi
    rw [getElem?_append_left (by omega)]
    rcases hd i with e | e
    ·refine ⟨o',by rw [e];exact dL,?_⟩
     by_cases xz:o'=.dead
     ·subst xz;trivial
     ·exact hr.mono hle (nb.old (Cp H hi ⟨o',dL,xz⟩))
    ·exact ⟨.dead,e,trivial⟩
  ·intro i j s t hi hj bK hm hl
   unfold aL.add at hi hj
   split at hi <;> split at hj
   ·omega
   ·rename_i e1 e2
    cases hi
    have:=bz j t hj hl
    omega
   ·rename_i e1 e2
    cases hj
    have:=bz i s hi hm.live
    omega
   ·exact H.inj i j s t hi hj bK (jm i (H.lt hi) hm) (zE j (H.lt hj) hl)
  ·intro i s hi
   unfold aL.add at hi
   split at hi
   ·cases hi;exact he
   ·exact H.aW i s hi
 ·exact {
   ext:=hle
   len:=by simp;omega
   jG:=fun i s hi=>H.lt hi
   kinds:=jm
   fresh:=by
    intro i s hi hn
    unfold aL.add at hi
    split at hi
    ·rename_i e;cases hi;exact ⟨by omega,.inl (by omega)⟩
    ·rw [hn] at hi;cases hi
   iP:=by rw [nb.size];omega
   iy:=fun k b9 _=>nb.old b9
   os:=nb.os
   tape:=nb.tape
   output:=nb.output }
structure mP (w:World) (k:Nat) (b:Obj) (w':World):Prop where
 here:w'.heap[k]?=some b
 other:∀j,j≠k→w'.heap[j]?=w.heap[j]?
 size:w'.heap.size=w.heap.size
 os:w'.os=w.os
 tape:w'.tape=w.tape
 output:w'.output=w.output
theorem mP.row {w:World} {g:Nat} {c:Array Value} {e:TypeId} {fr:Nat×Nat} (hg:w.heap[g]?=some (.cells c e fr)) (c':Array Value):mP w g (.cells c' e fr) (w.setRow g c') where
 here:=by simp [World.setRow,Array.getElem?_modify,hg]
 other:=by intro j hj;simp [World.setRow,Array.getElem?_modify,Ne.symm hj]
 size:=by simp [World.setRow]
 os:=rfl
 tape:=rfl
 output:=rfl
theorem aY.set {P:Program} {ρ:aL} {h:ae} {w w':World} {b:Obj} {i:Nat} {r:RI} {o:aq} (H:aY P ρ h w) (hi:ρ i=some r) (hm:cA h i) (sb:mP w r.bz b w')
  (ho:lE ρ w' r o):aY P ρ (h.set i o) w'∧Tr ρ h w ρ (h.set i o) w':=by
 have aD:=H.lt hi
 have jm:∀j,cA (h.set i o) j→cA h j:=by
  intro j hj
  by_cases e:j=i
  ·subst e;exact hm
  ·unfold cA at hj⊢
   rw [getElem?_set_ne (Ne.symm e)] at hj
   exact hj
 have zE:∀j,eR (h.set i o) j→eR h j:=by
  intro j hj
  by_cases e:j=i
  ·subst e;exact hm.live
  ·unfold eR at hj⊢
   rw [getElem?_set_ne (Ne.symm e)] at hj
   exact hj
 constructor
 ·constructor
  ·intro j s hj
   by_cases e:j=i
   ·subst e
    rw [hi] at hj
    cases hj
    exact ⟨o,by rw [List.getElem?_set_self aD],ho⟩
   ·obtain ⟨o',dL,hr⟩:=H.obj j s hj
    refine ⟨o',by rw [getElem?_set_ne (Ne.symm e)];exact dL,?_⟩
    by_cases xz:o'=.dead
    ·subst xz;trivial
    ·refine hr.mono (.refl _) (sb.other _ ?_)
     intro hb
     exact e (H.inj i j r s hi hj hb.symm hm ⟨o',dL,xz⟩).symm
  ·intro j k s t hj hk bK fL hl
   exact H.inj j k s t hj hk bK (jm j fL) (zE k hl)
  ·exact H.aW
 ·exact {
   ext:=.refl _
   len:=by simp
   jG:=fun j s hj=>H.lt hj
   kinds:=fun j _ hj=>jm j hj
   fresh:=fun j s h1 h2=>by rw [h1] at h2;cases h2
   iP:=by rw [sb.size];exact le_refl _
   iy:=fun k _ dC=>sb.other k fun e=>dC i r hi e.symm hm
   os:=sb.os
   tape:=sb.tape
   output:=sb.output }
theorem aY.move {P:Program} {ρ:aL} {h:ae} {w w':World} {b:Obj} {i:Nat} {r:RI} {o:aq} (H:aY P ρ h w) (hi:ρ i=some r) (hm:cA h i) (sb:mP w r.bz b w')
  (ho:lE (ρ.add h.length r) w' r o):aY P (ρ.add h.length r) (h.set i .dead++[o]) w'∧Tr ρ h w (ρ.add h.length r) (h.set i .dead++[o]) w':=by
 have aD:=H.lt hi
 have hle:=aL.wz (r:=r) H.none
 have get:∀j,j<h.length→j≠i→(h.set i .dead++[o])[j]?=h[j]?:=by
  intro j hj e
  rw [getElem?_append_left (by simpa using hj),getElem?_set_ne (Ne.symm e)]
 have Qx:(h.set i .dead++[o])[i]?=some .dead:=by
  rw [getElem?_append_left (by simpa using aD),List.getElem?_set_self aD]
 have jm:∀j,j<h.length→cA (h.set i .dead++[o]) j→cA h j∧j≠i:=by
  intro j hj fL
  have bk:j≠i:=by
   intro e
   subst e
   unfold cA at fL
   rw [Qx] at fL
   rcases fL with ⟨_,_,h1⟩ | ⟨_,h1⟩ | ⟨_,_,_,h1⟩ | ⟨_,_,h1⟩ | ⟨_,_,_,h1⟩ | ⟨_,_,_,_,h1⟩ <;> cases h1
  refine ⟨?_,bk⟩
  unfold cA at fL⊢
  rw [get j hj bk] at fL
  exact fL
 have zE:∀j,j<h.length→eR (h.set i .dead++[o]) j→eR h j∧j≠i:=by
  intro j hj fL
  have bk:j≠i:=by
   intro e
   subst e
   obtain ⟨o',h1,h2⟩:=fL
   rw [Qx] at h1
   cases h1
   exact h2 rfl
  refine ⟨?_,bk⟩
  unfold eR at fL⊢
  rw [get j hj bk] at fL
  exact fL
 constructor
 ·constructor
  ·intro j s hj
   unfold aL.add at hj
   split at hj
   ·rename_i e
    subst e
    cases hj
    exact ⟨o,by rw [List.getElem?_append_right (by simp)];simp,ho⟩
   ·by_cases e:j=i
    ·subst e
     exact ⟨.dead,Qx,trivial⟩
    ·obtain ⟨o',dL,hr⟩:=H.obj j s hj
     refine ⟨o',by rw [get j (H.lt hj) e];exact dL,?_⟩
     by_cases xz:o'=.dead
     ·subst xz;trivial
     ·refine hr.mono hle (sb.other _ ?_)
      intro hb
      exact e (H.inj i j r s hi hj hb.symm hm ⟨o',dL,xz⟩).symm
  ·intro j k s t hj hk bK fL hl
   unfold aL.add at hj hk
   split at hj <;> split at hk
   ·omega
   ·cases hj
    obtain ⟨h1,h2⟩:=zE k (H.lt hk) hl
    exact absurd (H.inj i k r t hi hk bK hm h1).symm h2
   ·cases hk
    obtain ⟨h1,h2⟩:=jm j (H.lt hj) fL
    exact absurd (H.inj j i s r hj hi bK h1 hm.live) h2
   ·exact H.inj j k s t hj hk bK (jm j (H.lt hj) fL).1 (zE k (H.lt hk) hl).1
  ·intro j s hj
   unfold aL.add at hj
   split at hj
   ·cases hj;exact H.aW i r hi
   ·exact H.aW j s hj
 ·exact {
   ext:=hle
   len:=by simp
   jG:=fun j s hj=>H.lt hj
   kinds:=fun j hj fL=>(jm j hj fL).1
   fresh:=by
    intro j s hj hn
    unfold aL.add at hj
    split at hj
    ·rename_i e;cases hj;exact ⟨by omega,.inr ⟨i,r,hi,rfl,hm⟩⟩
    ·rw [hn] at hj;cases hj
   iP:=by rw [sb.size];exact le_refl _
   iy:=fun k _ dC=>sb.other k fun e=>dC i r hi e.symm hm
   os:=sb.os
   tape:=sb.tape
   output:=sb.output }
end
section
inductive pH where
 | load (agg:Bool) (n:Nat) (a:Operand)
 | yG (x:Operand)
 | lookup (ok:Bool) (zero:Value) (m k:Operand)
 | JO (kd:IntKind) (ok:Bool) (zero:Value) (m k:Operand)
 | JN (g:fR) (ok:Bool) (zero:Value) (m k:Operand)
 | entry (it:Operand)
 | obj (x:Operand)
inductive mM where
 | alloc (e:TypeId) (zs:List Value)
 | nP (e:TypeId) (n:Nat) (zs:List Value) (parts:List (Nat×Nat×Operand))
 | make (e:TypeId) (bytes:Nat) (zs:List Value) (l c:Operand)
 | pA (g:fR)
inductive pE where
 | fl (a:mM)
 | store (n:Nat) (a v:Operand)
 | box (e:TypeId) (x:Operand)
 | alloc (e:TypeId) (zs:List Value)
 | nP (e:TypeId) (n:Nat) (zs:List Value) (parts:List (Nat×Nat×Operand))
 | make (e:TypeId) (bytes:Nat) (zs:List Value) (l c:Operand)
 | app (e:TypeId) (aW bytes:Nat) (s x:Operand)
 | mkMap
 | JT (kd:IntKind)
 | pA (g:fR)
 | SN (g:fR) (m k v:Operand)
 | DO (g:fR) (m k:Operand)
 | U4 (x:Operand)
 | next (it:Operand)
 | die
 | SO (kd:IntKind) (m k v:Operand)
 | SM (m k v:Operand)
 | copy (d s:Operand)
def aQ (h:ae) (i:Nat):Option (List Value):=
 match h[i]? with
 | some (.ro _ xs)=>some xs
 | some (.arr _ xs)=>some xs
 | _=>none
def af (agg:Bool) (n:Nat) (h:ae) (a:Value):Option Value:=
 match a with
 | .pointer (some ⟨i,o,none⟩)=>(aQ h i).bind fun xs=>cf agg o n xs
 | _=>none
def Du:Value→Option UInt8
 | .int .u8 n=>some (UInt8.ofNat n.toNat)
 | _=>none
def kU (h:ae) (aW:Nat) (x:Value):Option (List Value):=
 match x with
 | .slice none 0 0=>some []
 | .slice (some ⟨i,o,some _⟩) n _=>
  if n=0 then some [] else (aQ h i).bind fun xs=>if o+n*aW≤xs.length then some ((xs.drop o).take (n*aW)) else none
 | _=>none
def rY (h:ae) (x:Value):Option Value:=(kU h 1 x).bind fun cs=>(cs.mapM Du).map S
def vD (k:ByteArray):List (ByteArray×Value)→Option Value
 | []=>none
 | (k',v)::es=>if k=k' then some v else vD k es
def tD (k:ByteArray) (v:Value):List (ByteArray×Value)→List (ByteArray×Value)
 | []=>[(k,v)]
 | (k',v')::es=>if k=k' then (k',v)::es else (k',v')::tD k v es
def pa (k:Int):List (Int×Value)→Option Value
 | []=>none
 | (k',v)::es=>if k=k' then some v else pa k es
def tC (k:Int) (v:Value):List (Int×Value)→List (Int×Value)
 | []=>[(k,v)]
 | (k',v')::es=>if k=k' then (k',v)::es else (k',v')::tC k v es
def Jy (kd:IntKind) (ok:Bool) (zero:Value) (h:ae) (m k:Value):Option Value:=
 match m,k with
 | .map (some i),.int Ce k=>
  match h[i]? with
  | some (.kQ nN es)=>if Ce=kd∧nN=kd then some (if ok then .tuple #[(pa k es).getD zero,.bool (pa k es).isSome] else (pa k es).getD zero) else none
  | _=>none
 | _,_=>none
def xS:Value→Value→Bool
 | .int k a,.int k' b=>decide (k=k')&&decide (a=b)
 | _,_=>false
def uo:List Value→List Value→Bool
 | [],[]=>true
 | a::vf,b::bs=>xS a b&&uo vf bs
 | _,_=>false
def mS:Value→Value→Bool
 | .string a,.string b=>decide (bytes a=bytes b)
 | .agg vf,.agg bs=>uo vf.toList bs.toList
 | a,b=>xS a b
def ma (k:Value):List (Nat×Value×Value)→Option Nat
 | []=>none
 | (_,k',_)::es=>if mS k k'=true then some 0 else (ma k es).map (·+1)
def rL (k:Value) (es:List (Nat×Value×Value)):Option Value:=(ma k es).bind fun j=>(es[j]?).map fun e=>e.2.2
def mb (c:Nat) (k v:Value) (es:List (Nat×Value×Value)):List (Nat×Value×Value):=
 match ma k es with
 | some j=>es.modify j fun e=>(e.1,k,v)
 | none=>es++[(c,k,v)]
def oY (c:Nat) (k:Value) (es:List (Nat×Value×Value)):Nat:=match ma k es with | some _=>c | none=>c+1
def rJ (k:Value) (es:List (Nat×Value×Value)):List (Nat×Value×Value):=
 match ma k es with
 | some j=>es.eraseIdx j
 | none=>es
def zZ (g:fR) (ok:Bool) (zero:Value) (h:ae) (m k:Value):Option Value:=
 match m with
 | .map (some i)=>
  match h[i]? with
  | some (.di g' _ es)=>if g'=g∧fc g k=true then some (if ok then .tuple #[(rL k es).getD zero,.bool (rL k es).isSome] else (rL k es).getD zero) else none
  | _=>none
 | _=>none
def B6 (g:fR) (h:ae) (m k v:Value):Option ae:=
 match m with
 | .map (some i)=>
  match h[i]? with
  | some (.di g' c es)=>if g'=g∧fc g k=true∧iM v=true then some (h.set i (.di g (oY c k es) (mb c k v es))) else none
  | _=>none
 | _=>none
def ET (g:fR) (h:ae) (m k:Value):Option ae:=
 match m with
 | .map (some i)=>
  match h[i]? with
  | some (.di g' c es)=>if g'=g∧fc g k=true then some (h.set i (.di g c (rJ k es))) else none
  | _=>none
 | _=>none
def B7 (h:ae) (x:Value):Option (Value×ae):=
 match x with
 | .map (some i)=>
  match h[i]? with
  | some (.di _ c _)=>some (.pointer (some ⟨h.length,0,none⟩),h++[.iter i c [] c])
  | _=>none
 | _=>none
def zX (h:ae) (it:Value):Option Value:=
 match it with
 | .pointer (some ⟨j,0,none⟩)=>
  match h[j]? with
  | some (.iter i _ seen last)=>
   match h[i]?,seen.getLast? with
   | some (.di _ c es),some b=>if c=last then (es.find? fun e=>e.1==b).map fun e=>.tuple #[e.2.1,e.2.2] else none
   | _,_=>none
  | _=>none
 | _=>none
def xW:Value→Bool
 | .bool _ | .int .. | .string _ | .nilFunc | .nilIface=>true
 | .pointer none | .map none=>true
 | .slice none 0 0=>true
 | _=>false
def D8:fR→Value
 | .int k=>.int k 0
 | .str=>.bool true
 | .ints n k=>.agg #[.int k n]
def sg (i:Nat) (x:Value):Bool:=
 xW x||(match x with | .slice (some ⟨k,_,_⟩) _ _=>decide (k<i) | _=>false)
@[simp] theorem aGw (i : Nat) (k : IntKind) (z : Int) : sg i (.int k z) = true := rfl
@[simp] theorem aGv (i : Nat) (b : Bool) : sg i (.bool b) = true := rfl
@[simp] theorem aGy (i : Nat) (s) : sg i (.string s) = true := rfl
@[simp] theorem aGx (i : Nat) : sg i (.slice none 0 0) = true := rfl
def pP (i:Nat):aq→Option Value
 | .arr e xs=>if xs.all (sg i) then some (.agg (.int .i64 e::xs).toArray) else none
 | .di g c es=>if c=0∧es.isEmpty=true then some (.tuple #[D8 g]) else none
 | _=>none
def B8:Value→Option Nat
 | .pointer (some ⟨i,_,none⟩)=>some i
 | .slice (some ⟨i,_,_⟩) _ _=>some i
 | .map (some i)=>some i
 | _=>none
def eL (h:ae) (x:Value):Option Value:=(B8 x).bind fun i=>(h[i]?).bind (pP i)
def At (h:ae) (it:Value):Option (List (Value×ae)):=
 match it with
 | .pointer (some ⟨j,0,none⟩)=>
  match h[j]? with
  | some (.iter i kB seen last)=>
   match h[i]? with
   | some (.di _ c es)=>
    if (!seen.isEmpty&& !es.isEmpty&&es.all fun e=>decide (last≤e.1))=true then none else
    let left:=es.filter fun e=> !seen.contains e.1
    let old:=left.filter fun e=>decide (e.1<kB)
    let new:=left.filter fun e=>decide (kB≤e.1)
    some ((if old.isEmpty=true then [(.tuple #[.bool false],h)] else [])++(old++new).map fun e=>(.tuple #[.bool true,e.2.1,e.2.2],h.set j (.iter i kB (seen++[e.1]) c)))
   | _=>none
  | _=>none
 | _=>none
def Jx (ok:Bool) (zero:Value) (h:ae) (m k:Value):Option Value:=
 match m,k with
 | .map (some i),.string k=>
  match h[i]? with
  | some (.smap es)=>some (if ok then .tuple #[(vD k es).getD zero,.bool (vD k es).isSome] else (vD k es).getD zero)
  | _=>none
 | _,_=>none
def fC (o:pH) (g:Operand→Value) (h:ae):Option Value:=
 match o with
 | .load agg n a=>af agg n h (g a)
 | .yG x=>rY h (g x)
 | .lookup ok zero m k=>Jx ok zero h (g m) (g k)
 | .JO kd ok zero m k=>Jy kd ok zero h (g m) (g k)
 | .JN kd ok zero m k=>zZ kd ok zero h (g m) (g k)
 | .entry it=>zX h (g it)
 | .obj x=>eL h (g x)
def we (n:Nat) (h:ae) (a v:Value):Option ae:=
 match a with
 | .pointer (some ⟨i,o,none⟩)=>
  match h[i]? with
  | some (.arr e xs)=>if iM v∧(de v).length=n∧o+n≤xs.length then some (h.set i (.arr e (setAt xs o (de v)))) else none
  | _=>none
 | _=>none
def Cn (h:ae):Value:=.pointer (some ⟨h.length,0,none⟩)
def sl (e:TypeId) (i o n:Nat):Value:=.slice (some ⟨i,o,some e⟩) n n
def bm (e:TypeId) (h:ae) (x:Value):Option (Value×ae):=if iM x then some (Cn h,h++[.arr e (de x)]) else none
def iS (zs:List Value) (n:Nat):List Value:=(List.replicate n zs).flatten
def cW (e:TypeId) (n:Nat) (zs:List Value) (h:ae) (ps:List (Nat×Nat×Value)):Option (Value×ae):=
 (sN (iS zs n) ps).map fun cs=>(sl e h.length 0 n,h++[.arr e cs])
def nf (e:TypeId) (bytes:Nat) (zs:List Value) (h:ae) (l c:Value):Option (Value×ae):=
 match l,c with
 | .int _ l,.int _ c=>if 0≤l∧l≤c∧(bytes:Int)*c≤281474976710656∧c≤9223372036854775807 then some (sl e h.length 0 l.toNat,h++[.arr e (iS zs l.toNat)]) else none
 | _,_=>none
def qh:Value→Option Nat
 | .slice none 0 0=>some 0
 | .slice (some _) n _=>some n
 | _=>none
def dM (e:TypeId) (aW bytes:Nat) (h:ae) (s x:Value):Option (Value×ae):=
 match kU h aW x,qh x with
 | some news,some m=>
  match s with
  | .slice none 0 0=>
   if m=0 then some (s,h) else
   if m*bytes≤140737488355328∧m≤maxLen then some (sl e h.length 0 m,h++[.arr e news]) else none
  | .slice (some ⟨i,0,some e'⟩) n _=>
   match h[i]? with
   | some (.arr e'' xs)=>
    if e'=e∧e''=e∧xs.length=n*aW∧(n+m)*bytes≤140737488355328∧n+m≤maxLen then
     if m=0 then some (s,h) else some (sl e h.length 0 (n+m),h.set i .dead++[.arr e (xs++news)])
    else none
   | _=>none
  | _=>none
 | _,_=>none
def R4 (h:ae) (m k v:Value):Option ae:=
 match m,k with
 | .map (some i),.string k=>
  match h[i]? with
  | some (.smap es)=>some (h.set i (.smap (tD k v es)))
  | _=>none
 | _,_=>none
def R5 (kd:IntKind) (h:ae) (m k v:Value):Option ae:=
 match m,k with
 | .map (some i),.int Ce k=>
  match h[i]? with
  | some (.kQ nN es)=>if Ce=kd∧nN=kd then some (h.set i (.kQ kd (tC k v es))) else none
  | _=>none
 | _,_=>none
def Co (kd:fR) (h:ae) (m k v:Value):Option (Value×ae):=(B6 kd h m k v).map fun h'=>(undef,h')
def SZ (kd:fR) (h:ae) (m k:Value):Option (Value×ae):=(ET kd h m k).map fun h'=>(.tuple #[],h')
def Jz (kd:fR) (h:ae):Option (Value×ae):=some (.map (some h.length),h++[.di kd 0 []])
def aG (n:Nat) (h:ae) (a v:Value):Option (Value×ae):=(we n h a v).map fun h'=>(undef,h')
def aV (e:TypeId) (zs:List Value) (h:ae):Option (Value×ae):=some (Cn h,h++[.arr e zs])
def RX (h:ae) (d s:Value):Option (Value×ae):=
 match qh d,qh s,kU h 1 s with
 | some n,some m,some cs=>
  if Nat.min m n=0 then some (.int .i64 0,h) else
  match d with
  | .slice (some ⟨i,o,some _⟩) _ _=>
   match h[i]? with
   | some (.arr e xs)=>if o+Nat.min m n≤xs.length then some (.int .i64 (Nat.min m n:Nat),h.set i (.arr e (setAt xs o (cs.take (Nat.min m n))))) else none
   | _=>none
  | _=>none
 | _,_,_=>none
def gj (o:pE) (g:Operand→Value) (h:ae):Option (Value×ae):=
 match o with
 | .fl a=>match a with
  | .alloc e zs=>some (Cn h,h++[.arr e zs])
  | .nP e n zs ps=>cW e n zs h (ps.map fun (o,s,x)=>(o,s,g x))
  | .make e bytes zs l c=>nf e bytes zs h (g l) (g c)
  | .pA kd=>some (.map (some h.length),h++[.di kd 0 []])
 | .store n a v=>(we n h (g a) (g v)).map fun h'=>(undef,h')
 | .box e x=>bm e h (g x)
 | .alloc e zs=>some (Cn h,h++[.arr e zs])
 | .nP e n zs ps=>cW e n zs h (ps.map fun (o,s,x)=>(o,s,g x))
 | .make e bytes zs l c=>nf e bytes zs h (g l) (g c)
 | .app e aW bytes s x=>dM e aW bytes h (g s) (g x)
 | .mkMap=>some (.map (some h.length),h++[.smap []])
 | .SM m k v=>(R4 h (g m) (g k) (g v)).map fun h'=>(undef,h')
 | .JT kd=>some (.map (some h.length),h++[.kQ kd []])
 | .die=>none
 | .next _=>none
 | .pA kd=>some (.map (some h.length),h++[.di kd 0 []])
 | .SN kd m k v=>(B6 kd h (g m) (g k) (g v)).map fun h'=>(undef,h')
 | .DO kd m k=>(ET kd h (g m) (g k)).map fun h'=>(.tuple #[],h')
 | .U4 x=>B7 h (g x)
 | .SO kd m k v=>(R5 kd h (g m) (g k) (g v)).map fun h'=>(undef,h')
 | .copy d s=>RX h (g d) (g s)
def mM.FV:mM→pE
 | .alloc e zs=>.alloc e zs
 | .nP e n zs ps=>.nP e n zs ps
 | .make e b zs l c=>.make e b zs l c
 | .pA g=>.pA g
def pE.Lu:pE→Option mM
 | .alloc e zs=>some (.alloc e zs)
 | .nP e n zs ps=>some (.nP e n zs ps)
 | .make e b zs l c=>some (.make e b zs l c)
 | .pA g=>some (.pA g)
 | _=>none
def lL (a:mM) (g:Operand→Value):Option ((Nat→Value)×aq):=
 match a with
 | .alloc e zs=>some (fun i=>.pointer (some ⟨i,0,none⟩),.arr e zs)
 | .nP e n zs ps=>(sN (iS zs n) (ps.map fun (o,s,x)=>(o,s,g x))).map fun cs=>(fun i=>sl e i 0 n,.arr e cs)
 | .make e bytes zs l c=>
  match g l,g c with
  | .int _ l,.int _ c=>if 0≤l∧l≤c∧(bytes:Int)*c≤281474976710656∧c≤9223372036854775807 then some (fun i=>sl e i 0 l.toNat,.arr e (iS zs l.toNat)) else none
  | _,_=>none
 | .pA g=>some (fun i=>.map (some i),.di g 0 [])
theorem ae8 (a:mM) (g:Operand→Value) (h:ae):gj (.fl a) g h=(lL a g).map fun p=>(p.1 h.length,h++[p.2]):=by
 cases a with
 | alloc e zs=>rfl
 | nP e n zs ps=>simp only [gj,lL,cW,Option.map_map];rfl
 | make e b zs l c=>
  simp only [gj,lL,nf]
  split
  ·split <;> rfl
  ·rfl
 | pA g=>rfl
theorem axR (a:mM) (g:Operand→Value) (h:ae):gj a.FV g h=gj (.fl a) g h:=by cases a <;> rfl
theorem amz {e:pE} {a:mM} (h:e.Lu=some a):a.FV=e:=by
 cases e <;> simp [pE.Lu] at h <;> subst h <;> rfl
theorem OI {a:mM} {g:Operand→Value} {V:Nat→Value} {o:aq} (h:lL a g=some (V,o)):∀i,B8 (V i)=some i:=by
 cases a with
 | pA g=>simp [lL] at h;obtain ⟨rfl,_⟩:=h;intro i;rfl
 | alloc e zs=>simp [lL] at h;obtain ⟨rfl,_⟩:=h;intro i;rfl
 | nP e n zs ps=>simp only [lL,map_eq_some_iff,Prod.mk.injEq] at h;obtain ⟨_,_,rfl,_⟩:=h;intro i;rfl
 | make e b zs l c=>
  simp only [lL] at h
  split at h
  ·split at h
   ·simp at h;obtain ⟨rfl,_⟩:=h;intro i;rfl
   ·cases h
  ·cases h
def CY (P:Program) (t:TypeId):Option Value:=
 match P.info? t with
 | some i=>match i.zero with
  | some z=>if Bf z then some z else none
  | none=>none
 | none=>none
def isString (P:Program) (t:TypeId):Bool:=match P.underlying t with | some .string=>true | _=>false
def Af (P:Program) (t:TypeId):Option IntKind:=match P.underlying t with | some (.int k)=>some k | _=>none
def AR:Value→Bool
 | .agg cs=>cs.toList.all Bf
 | v=>mm v
def LU (P:Program) (t:TypeId):Option Value:=
 match P.info? t with
 | some i=>match i.zero with
  | some z=>if AR z then some z else none
  | none=>none
 | none=>none
def rM (P:Program) (t:TypeId):Option fR:=
 match P.underlying t with
 | some (.map kt et)=>
  match P.underlying et with
  | some (.int _)=>none
  | _=>
   match P.underlying kt with
   | some .string=>some .str
   | some (.int k)=>some (.int k)
   | some (.array n e)=>
    match P.underlying e with
    | some (.int k)=>if (P.cellsOf e==1&&P.cellsOf kt==n&& !(P.types.size==0))=true then some (.ints n k) else none
    | _=>none
   | _=>none
 | _=>none
def vk (P:Program):Op→Option pH
 | .load t a=>
  match P.underlying t with
  | some d=>if iK P t&&(oH d||P.cellsOf t==1) then some (.load (oH d) (P.cellsOf t) a) else none
  | none=>none
 | .entry it=>some (.entry it)
 | .convert s d x=>
  match P.underlying s,P.underlying d with
  | some (.slice e),some .string=>match P.underlying e with | some (.int .u8)=>some (.yG x) | _=>none
  | _,_=>none
 | .lookup t m k ok=>
  match rM P t with
  | some g=>match P.underlying t with
   | some (.map _ et)=>(LU P et).map fun z=>.JN g ok z m k
   | _=>none
  | none=>
  match P.underlying t with
  | some (.map kt et)=>if isString P kt then (CY P et).map fun z=>.lookup ok z m k else (Af P kt).bind fun kd=>(CY P et).map fun z=>.JO kd ok z m k
  | _=>none
 | _=>none
def iG (P:Program):Op→Option pE
 | .store t a v=>if iK P t then some (.store (P.cellsOf t) a v) else none
 | .box e x=>some (.box e x)
 | .alloc e=>(zeroOf P e).map fun zs=>.alloc e zs
 | .buildSlice t n ps=>
  match P.underlying t with
  | some (.slice e)=>
   match zeroOf P e with
   | some zs=>if n*P.cellsOf e≤16777216∧P.cellsOf e≠0 then some (.nP e n zs (ps.toList.map fun (i,x)=>(i*P.cellsOf e,P.cellsOf e,x))) else none
   | none=>none
  | _=>none
 | .makeSlice t l c=>
  match P.underlying t with
  | some (.slice e)=>
   match zeroOf P e with
   | some zs=>some (.make e (P.bytesOf e) zs l c)
   | none=>none
  | _=>none
 | .call { callee:=.builtin .append,args,argTypes }=>
  match args.toList,argTypes.toList with
  | [s,x],[t,t']=>
   if t=t' then
    match P.underlying t with
    | some (.slice e)=>
     match zeroOf P e with
     | some _=>some (.app e (P.cellsOf e) (P.bytesOf e) s x)
     | none=>none
    | _=>none
   else none
  | _,_=>none
 | .makeMap t none=>
  match rM P t with
  | some g=>some (.pA g)
  | none=>
  match P.underlying t with
  | some (.map kt _)=>some (match Af P kt with | some kd=>.JT kd | none=>.mkMap)
  | _=>some .mkMap
 | .mapUpdate t m k v | .insert t m k v=>
  match rM P t with
  | some g=>some (.SN g m k v)
  | none=>
  match P.underlying t with
  | some (.map kt _)=>if isString P kt then some (.SM m k v) else (Af P kt).map fun kd=>.SO kd m k v
  | _=>none
 | .call { callee:=.builtin .delete,args,argTypes }=>
  match args.toList,argTypes[0]? with
  | [m,k],some t=>(rM P t).map fun g=>.DO g m k
  | _,_=>none
 | .call { callee:=.builtin .copy,args,argTypes }=>
  match args.toList,argTypes.toList with
  | [d,s],[t,_]=>
   match P.underlying t with
   | some (.slice e)=>if (P.info? e).map (·.size)=some 1 then some (.copy d s) else none
   | _=>none
  | _,_=>none
 | .range t x=>(rM P t).map fun _=>.U4 x
 | .next it false=>some (.next it)
 | .panic _ | .makeInterface .. =>some .die
 | _=>none
end
section
theorem aEE {ρ:aL} {i o n:Nat} {e:TypeId} {y:Value} (h:ax ρ (.slice (some ⟨i,o,some e⟩) n n) y):
  ∃r o' c',ρ i=some r∧r.elem=e∧y=.slice (some ⟨r.bz,o',none⟩) n c'∧(o'=r.sh+o∨(n=0∧0<o∧c'=0))∧n≤c'∧c'≤maxLen∧o'+c'*r.aW≤r.size:=by
 cases h with
 | slice hr a b c d=>exact ⟨_,_,_,hr,rfl,rfl,a,b,c,d⟩
theorem ax.down {ρ av:aL} (hle:ρ.le av) {x y0:Value} (h0:ax ρ x y0):∀{y:Value},ax av x y→ax ρ x y:=by
 have same:∀{i:Nat} {r r':RI},ρ i=some r→av i=some r'→r'=r:=fun h h'=>by rw [hle _ _ h] at h';cases h';rfl
 induction h0 with
 | bool b=>intro y h;cases h;exact .bool b
 | int k n=>intro y h;cases h;exact .int k n
 | string s=>intro y h;cases h;exact .string s
 | uC=>intro y h;cases h;exact .uC
 | rh=>intro y h;cases h;exact .rh
 | uB=>intro y h;cases h;exact .uB
 | nilFunc=>intro y h;cases h;exact .nilFunc
 | nilIface=>intro y h;cases h;exact .nilIface
 | ptr hi=>intro y h;cases h with | ptr gu=>cases same hi gu;exact .ptr hi
 | slice hi a b c d=>
  intro y h
  obtain ⟨r',o',c',h1,h2,rfl,h3,h4,h5,h6⟩:=aEE h
  cases same hi h1
  exact .slice hi h3 h4 h5 h6
 | void a=>intro y h;cases h;exact .void _
 | map hi=>intro y h;cases h with | map gu=>cases same hi gu;exact .map hi
 | yield hi=>intro y h;cases h with | yield gu=>cases same hi gu;exact .yield hi
 | func f s1 s2 _ _ Ab Ca=>
  intro y h
  cases h with
  | func _ t1 t2 q1 q2=>
   refine .func f t1 t2 (fun k x x' e e'=>?_) (fun k x x' e e'=>?_)
   ·obtain ⟨z,hz⟩:∃z,_=some z:=⟨_,getElem?_eq_getElem (by rw [←s1];exact (Array.getElem?_eq_some_iff.1 e).1)⟩
    exact Ab k x z e hz (q1 k x x' e e')
   ·obtain ⟨z,hz⟩:∃z,_=some z:=⟨_,getElem?_eq_getElem (by rw [←s2];exact (Array.getElem?_eq_some_iff.1 e).1)⟩
    exact Ca k x z e hz (q2 k x x' e e')
 | agg s1 hc _ ih=>
  intro y h
  cases h with
  | agg t1 _ q1=>
   refine .agg t1 hc (fun k x x' e e'=>?_)
   obtain ⟨z,hz⟩:∃z,_=some z:=⟨_,getElem?_eq_getElem (by rw [←s1];exact (Array.getElem?_eq_some_iff.1 e).1)⟩
   exact ih k x z e hz (q1 k x x' e e')
 | any v=>intro y _;exact .any y
 | tuple s1 _ ih=>
  intro y h
  cases h with
  | tuple t1 q1=>
   refine .tuple t1 (fun k x x' e e'=>?_)
   obtain ⟨z,hz⟩:∃z,_=some z:=⟨_,getElem?_eq_getElem (by rw [←s1];exact (Array.getElem?_eq_some_iff.1 e).1)⟩
   exact ih k x z e hz (q1 k x x' e e')
theorem fY.down {ρ av:aL} (hle:ρ.le av) {c c':Array Value} {sh sh':Nat} {xs:List Value} (h0:fY ρ c sh xs) (h:fY av c' sh' xs):fY ρ c' sh' xs:=by
 intro j x hj
 obtain ⟨_,y0,_,r0⟩:=h0 j x hj
 obtain ⟨c1,y,hy,r⟩:=h j x hj
 exact ⟨c1,y,hy,r0.down hle r⟩
theorem lE.down {ρ av:aL} (hle:ρ.le av) {w w':World} {r:RI} {o:aq} (h0:lE ρ w r o) (h:lE av w' r o):lE ρ w' r o:=by
 cases o with
 | ro e xs=>
  obtain ⟨_,_,_,_,_,_,b4⟩:=h0
  obtain ⟨a1,c,t,fr,a2,a3,a4⟩:=h
  exact ⟨a1,c,t,fr,a2,a3,b4.down hle a4⟩
 | arr e xs=>
  obtain ⟨_,_,_,_,_,b4⟩:=h0
  obtain ⟨a1,a0,c,a2,a3,a4⟩:=h
  exact ⟨a1,a0,c,a2,a3,b4.down hle a4⟩
 | smap es=>
  obtain ⟨_,_,_,_,b3⟩:=h0
  obtain ⟨aK,clock,a1,a2,a3⟩:=h
  refine ⟨aK,clock,a1,a2,fun j k v hj=>?_⟩
  obtain ⟨_,_,_,r0⟩:=b3 j k v hj
  obtain ⟨en,e1,e2,e3⟩:=a3 j k v hj
  exact ⟨en,e1,e2,r0.down hle e3⟩
 | kQ kd es=>
  obtain ⟨_,_,_,_,b3⟩:=h0
  obtain ⟨aK,clock,a1,a2,a3⟩:=h
  refine ⟨aK,clock,a1,a2,fun j k v hj=>?_⟩
  obtain ⟨_,_,_,r0⟩:=b3 j k v hj
  obtain ⟨en,e1,e2,e3⟩:=a3 j k v hj
  exact ⟨en,e1,e2,r0.down hle e3⟩
 | di g c es=>
  obtain ⟨_,_,_,_,b3⟩:=h0
  obtain ⟨a0,aK,a1,a2,a3⟩:=h
  refine ⟨a0,aK,a1,a2,fun j b k v hj=>?_⟩
  obtain ⟨_,_,_,_,_,r0⟩:=b3 j b k v hj
  obtain ⟨e0,en,e1,e2,yP,e3⟩:=a3 j b k v hj
  exact ⟨e0,en,e1,e2,yP,r0.down hle e3⟩
 | iter m s n l=>
  obtain ⟨_,rm0,b1,_⟩:=h0
  obtain ⟨a0,rm,a1,a2⟩:=h
  have:=hle _ _ b1
  rw [a1] at this
  cases this
  exact ⟨a0,rm0,b1,a2⟩
 | loop c ls vs=>
  obtain ⟨_,_,_,_,_,_,_,_,b8⟩:=h0
  obtain ⟨rec,a1,a2,a3,a4,a5,a6,a7,a8⟩:=h
  exact ⟨rec,a1,a2,a3,a4,a5,a6,a7,fun t=>(b8 t).down hle (a8 t)⟩
 | dead=>trivial
theorem xW.rel {ρ av:aL} {v v':Value} (h:xW v=true) (hv:ax ρ v v'):ax av v v':=by
 unfold xW at h
 split at h
 ·cases hv;exact .bool _
 ·cases hv;exact .int _ _
 ·cases hv;exact .string _
 ·cases hv;exact .nilFunc
 ·cases hv;exact .nilIface
 ·cases hv;exact .uC
 ·cases hv;exact .uB
 ·cases hv;exact .rh
 ·cases h
theorem aY.IN {P:Program} {ρ:aL} {h:ae} {w:World} (H:aY P ρ h w) (os:ae):aY P ρ (h++os) w where
 obj i r hi:=by
  obtain ⟨o,ho,hr⟩:=H.obj i r hi
  exact ⟨o,by rw [getElem?_append_left (H.lt hi)];exact ho,hr⟩
 inj i j r s hi hj hb hm hl:=by
  refine H.inj i j r s hi hj hb ?_ ?_
  ·unfold cA at hm⊢;rw [getElem?_append_left (H.lt hi)] at hm;exact hm
  ·unfold eR at hl⊢;rw [getElem?_append_left (H.lt hj)] at hl;exact hl
 aW:=H.aW
theorem Tr.IN {P:Program} {ρ:aL} {h:ae} {w:World} (H:aY P ρ h w) (os:ae):Tr ρ h w ρ (h++os) w where
 ext:=.refl _
 len:=by simp
 jG:=fun _ _ hi=>H.lt hi
 kinds:=fun i hi hm=>by unfold cA at hm⊢;rw [getElem?_append_left hi] at hm;exact hm
 fresh:=fun i r h1 h2=>by rw [h1] at h2;cases h2
 iP:=le_refl _
 iy:=fun _ _ _=>rfl
 os:=rfl
 tape:=rfl
 output:=rfl
theorem axS {lo:pH} {g:Operand→Value} {h:ae} {v:Value} (os:ae) (hl:fC lo g h=some v):fC lo g (h++os)=some v:=by
 have get:∀{i:Nat} {o:aq},h[i]?=some o→(h++os)[i]?=some o:=by
  intro i o hi
  rw [getElem?_append_left (bD hi).1];exact hi
 have cells:∀{i:Nat} {xs:List Value},aQ h i=some xs→aQ (h++os) i=some xs:=by
  intro i xs hc
  unfold aQ at hc⊢
  split at hc
  ·rename_i e ys hq;rw [get hq];exact hc
  ·rename_i e ys hq;rw [get hq];exact hc
  ·cases hc
 cases lo with
 | load agg n a=>
  simp only [fC,af] at hl⊢
  split at hl
  ·rename_i i o _
   cases hc:aQ h i with
   | none=>rw [hc] at hl;cases hl
   | some xs=>rw [hc] at hl;rw [cells hc];exact hl
  ·cases hl
 | yG x=>
  have sc:∀{cs:List Value},kU h 1 (g x)=some cs→kU (h++os) 1 (g x)=some cs:=by
   intro cs hc
   unfold kU at hc⊢
   split at hc
   ·exact hc
   ·rename_i i o e n c hx
    split at hc
    ·rename_i h0;rw [if_pos h0];exact hc
    ·rename_i h0
     rw [if_neg h0]
     cases zk:aQ h i with
     | none=>rw [zk] at hc;cases hc
     | some xs=>rw [zk] at hc;rw [cells zk];exact hc
   ·cases hc
  simp only [fC,rY] at hl⊢
  cases hc:kU h 1 (g x) with
  | none=>rw [hc] at hl;cases hl
  | some cs=>rw [hc] at hl;rw [sc hc];exact hl
 | lookup ok z m k=>
  simp only [fC,Jx] at hl⊢
  split at hl
  ·rename_i i key hm hk
   split at hl
   ·rename_i es he;rw [get he];exact hl
   ·cases hl
  ·cases hl
 | JO kd ok z m k=>
  simp only [fC,Jy] at hl⊢
  split at hl
  ·rename_i i Ce key hm hk
   split at hl
   ·rename_i nN es he;rw [get he];exact hl
   ·cases hl
  ·cases hl
 | JN gk ok z m k=>
  simp only [fC,zZ] at hl⊢
  split at hl
  ·rename_i i hm
   split at hl
   ·rename_i g' c es he;rw [get he];exact hl
   ·cases hl
  ·cases hl
 | entry it=>
  simp only [fC,zX] at hl⊢
  split at hl
  ·rename_i j hj
   split at hl
   ·rename_i i si seen last sW
    rw [get sW]
    simp only
    split at hl
    ·rename_i gg c es b jj hb
     rw [get jj,hb]
     exact hl
    ·cases hl
   ·cases hl
  ·cases hl
 | obj x=>
  simp only [fC,eL] at hl⊢
  cases hx:B8 (g x) with
  | none=>rw [hx] at hl;cases hl
  | some i=>
   rw [hx] at hl
   simp only [Option.bind_some] at hl⊢
   cases ho:h[i]? with
   | none=>rw [ho] at hl;cases hl
   | some o=>rw [ho] at hl;rw [get ho];exact hl
end
section
section
variable {P : Program} {w : World} {ρ : aL} {h : ae}
theorem aY.cells (H:aY P ρ h w) {i:Nat} {r:RI} {xs:List Value} (hi:ρ i=some r) (hx:aQ h i=some xs):
  ∃c t fr,w.heap[r.bz]?=some (.cells c t fr)∧fY ρ c r.sh xs:=by
 obtain ⟨o,ho,hr⟩:=H.obj i r hi
 unfold aQ at hx
 rw [ho] at hx
 cases o with
 | ro e ys=>
  simp at hx;subst hx
  obtain ⟨h1,c,t,fr,h2,h3,h4⟩:=hr
  exact ⟨c,t,fr,h2,h4⟩
 | arr e ys=>
  simp at hx;subst hx
  obtain ⟨h1,h0,c,h2,h3,h4⟩:=hr
  subst h1
  exact ⟨c,_,(0,0),h2,by rw [h0];exact h4⟩
 | smap es=>simp at hx
 | kQ kd es=>simp at hx
 | di g c es=>simp at hx
 | iter m s n l=>simp at hx
 | loop c ls vs=>simp at hx
 | dead=>simp at hx
theorem fY.VY {c:Array Value} {sh o n:Nat} {xs:List Value} (hc:fY ρ c sh xs) (hl:o+n≤xs.length):
  ∃ys:List Value,bF ρ ((xs.drop o).take n) ys∧ys.length=n∧(∀x∈(xs.drop o).take n,gA x=true)∧∀j v,ys[j]?=some v→c[sh+o+j]?=some v:=by
 have key:∀j,j<n→∃x y,((xs.drop o).take n)[j]?=some x∧c[sh+o+j]?=some y∧ax ρ x y∧gA x=true:=by
  intro j hj
  have hx:xs[o+j]?=some (xs[o+j]'(by omega)):=List.getElem?_eq_getElem _
  obtain ⟨h1,y,hy,hr⟩:=hc (o+j) _ hx
  refine ⟨_,y,?_,by rw [←hy];congr 1;omega,hr,h1⟩
  rw [List.getElem?_take,if_pos hj,List.getElem?_drop]
  exact hx
 have hlen:((xs.drop o).take n).length=n:=by simp;omega
 refine ⟨(List.range n).map fun j=>c.getD (sh+o+j) Go.undef,?_,by simp,?_,?_⟩
 ·refine bF.J6 (by simp;omega) ?_
  intro k x y hx hy
  have hk:k<n:=by have:=(bD hx).1;omega
  obtain ⟨x',y',h1,h2,h3,_⟩:=key k hk
  rw [h1] at hx;cases hx
  simp [hk] at hy
  subst hy
  simpa [Array.getD,Array.getElem?_eq_some_iff.1 h2 |>.1,(Array.getElem?_eq_some_iff.1 h2).2] using h3
 ·intro x hx
  obtain ⟨k,hk⟩:=List.getElem?_of_mem hx
  have b9:k<n:=by have:=(bD hk).1;omega
  obtain ⟨x',y',h1,h2,h3,h4⟩:=key k b9
  rw [h1] at hk;cases hk
  exact h4
 ·intro j v hv
  by_cases hj:j<n
  ·obtain ⟨x',y',h1,h2,h3,_⟩:=key j hj
   simp [hj] at hv
   rw [h2,←hv]
   simp [Array.getElem?_eq_some_iff.1 h2 |>.1,(Array.getElem?_eq_some_iff.1 h2).2]
  ·simp [hj] at hv
theorem Ij {g o:Nat} {c:Array Value} {t:TypeId} {fr:Nat×Nat} (hg:w.heap[g]?=some (.cells c t fr)):w.cell? ⟨g,o,none⟩=c[o]?:=by
 simp [World.cell?,hg]
theorem aEl {g o n:Nat} {c:Array Value} {t:TypeId} {fr:Nat×Nat} {ys:List Value} (hg:w.heap[g]?=some (.cells c t fr)) (hl:ys.length=n) (hy:∀j v,ys[j]?=some v→c[o+j]?=some v):
  (loadCells ⟨g,o,none⟩ n).run P w=.ok ys.toArray w:=by
 subst hl
 exact run_loadCells_list w _ ys fun j v hj=>by rw [Addr.add_lit,Ij hg];exact hy j v hj
theorem al5 (H:aY P ρ h w) {t:TypeId} {d:TypeDesc} {a a' v:Value} (ht:P.underlying t=some d) (hk:iK P t=true) (hi:af (oH d) (P.cellsOf t) h a=some v) (ha:ax ρ a a'):
  ∃v',(Instr.loadAt t a').run P w=.ok v' w∧ax ρ v v':=by
 unfold af at hi
 split at hi
 ·rename_i i o
  obtain ⟨r,hr,rfl⟩:=ha.FG
  simp only [bind_eq_some_iff] at hi
  obtain ⟨xs,hx,hp⟩:=hi
  obtain ⟨c,_,fr,hb,hc⟩:=H.cells hr hx
  unfold cf at hp
  cases hd:oH d
  ·rw [hd] at hp
   simp at hp
   obtain ⟨h1,y,hy,hv⟩:=hc o v hp
   refine ⟨y,?_,hv⟩
   have:w.cell? ⟨r.bz,r.sh+o,none⟩=some y:=by rw [Ij hb,hy]
   simp [Instr.loadAt,Instr.sureAddr,loadVar,Vg w ht,hd,this]
  ·rw [hd] at hp
   simp at hp
   obtain ⟨hl,rfl⟩:=hp
   obtain ⟨ys,h1,h2,h3,h4⟩:=hc.VY hl
   refine ⟨.agg ys.toArray,?_,.yB h1 h3⟩
   simp [Instr.loadAt,Instr.sureAddr,loadVar,Vg w ht,hd,rr w hk,aEl (P:=P) hb h2 h4]
 ·cases hi
theorem Li (H:aY P ρ h w) {aW:Nat} {x x':Value} {cs:List Value} (hs:kU h aW x=some cs) (hx:ax ρ x x'):
  (x'=.slice none 0 0∧cs=[])∨(∃b o n c',x'=.slice (some ⟨b,o,none⟩) n c'∧qh x=some n∧cs.length=n*aW∧(∀v∈cs,gA v=true)∧
   ∃ys,bF ρ cs ys∧∀j v,ys[j]?=some v→w.cell? ⟨b,o+j,none⟩=some v):=by
 unfold kU at hs
 split at hs
 ·simp at hs;subst hs
  cases hx
  exact .inl ⟨rfl,rfl⟩
 ·rename_i i o e n c
  cases hx with
  | slice hr ho hn hc hb=>
   rename_i o' c' r
   split at hs
   ·rename_i h0
    simp at hs;subst hs;subst h0
    exact .inr ⟨_,_,_,_,rfl,rfl,by simp,by simp,[],.nil,by simp⟩
   ·rename_i h0
    simp only [bind_eq_some_iff] at hs
    obtain ⟨xs,hx,hl⟩:=hs
    split at hl
    ·rename_i hle
     simp at hl;subst hl
     obtain ⟨c,_,fr,sS,hc⟩:=H.cells hr hx
     obtain ⟨ys,h1,h2,h3,h4⟩:=hc.VY hle
     have dL:o'=r.sh+o:=by
      rcases ho with ho | ⟨q1,q2,q3⟩
      ·exact ho
      ·omega
     subst dL
     refine .inr ⟨_,_,_,_,rfl,rfl,by simp;omega,h3,ys,h1,?_⟩
     intro j v hj
     rw [Ij sS]
     exact h4 j v hj
    ·cases hl
 ·cases hs
theorem afV:∀{cs:List Value} {l:List UInt8},cs.mapM Du=some l→∃ns:List Int,cs=ns.map (Value.int .u8)∧l=ns.map fun n=>UInt8.ofNat n.toNat
 | [],l,h=>by simp at h;subst h;exact ⟨[],rfl,rfl⟩
 | c::cs,l,h=>by
  simp only [List.mapM_cons,Option.bind_eq_bind,bind_eq_some_iff] at h
  obtain ⟨b,hb,bs,Ej,h⟩:=h
  simp at h;subst h
  obtain ⟨ns,rfl,rfl⟩:=afV Ej
  unfold Du at hb
  split at hb
  ·rename_i n
   simp at hb;subst hb
   exact ⟨n::ns,rfl,rfl⟩
  ·cases hb
theorem bF.ints {ns:List Int} {k:IntKind} {ys:List Value} (h:bF ρ (ns.map (Value.int k)) ys):ys=ns.map (Value.int k):=by
 induction ns generalizing ys with
 | nil=>cases h;rfl
 | cons n ns ih=>
  cases h with
  | cons a b=>rw [a.mE,ih b];rfl
theorem aAj (ns:List Int):∀(s:ByteArray),ns.foldl (fun r n=>r.push (UInt8.ofNat n.toNat)) s=⟨(bytes s++ns.map fun n=>UInt8.ofNat n.toNat).toArray⟩:=by
 induction ns with
 | nil=>intro s;simp [E9]
 | cons n ns ih=>
  intro s
  rw [List.foldl_cons,ih]
  simp [bytes]
theorem aDS (H:aY P ρ h w) {x x' v:Value} (hi:rY h x=some v) (hx:ax ρ x x'):(Conv.bytesToString x').run P w=.ok v w∧ax ρ v v:=by
 unfold rY at hi
 simp only [bind_eq_some_iff,map_eq_some_iff] at hi
 obtain ⟨cs,hs,l,hl,rfl⟩:=hi
 refine ⟨?_,ax.S _ _⟩
 obtain ⟨ns,rfl,rfl⟩:=afV hl
 rcases Li H hs hx with ⟨rfl,h0⟩ | ⟨b,o,n,c',rfl,_,hlen,_,ys,hy,sT⟩
 ·have:ns=[]:=by simpa using h0
  subst this
  simp [Conv.bytesToString,S]
  rfl
 ·have e:=hy.ints
  subst e
  simp at hlen
  have hld:(loadCells ⟨b,o,none⟩ n).run P w=.ok (ns.map (Value.int .u8)).toArray w:=by
   have:=run_loadCells_list (P:=P) w ⟨b,o,none⟩ (ns.map (Value.int .u8)) (fun j v hj=>by rw [Addr.add_lit];exact sT j v hj)
   simpa [hlen] using this
  rw [run_bytesToString w _ n c' ns hld,aAj]
  rfl
end
end
section
theorem afc {a b:Value} (h:xS a b=true):a=b:=by
 unfold xS at h
 split at h
 ·simp only [and_eq_true,decide_eq_true_eq] at h;rw [h.1,h.2]
 ·cases h
theorem afe:∀{a b:List Value},uo a b=true→a=b
 | [],[],_=>rfl
 | a::vf,b::bs,h=>by
  simp only [uo,and_eq_true] at h
  rw [afc h.1,afe h.2]
 | [],_::_,h=>by cases h
 | _::_,[],h=>by cases h
theorem aff {k:IntKind}:∀{a:List Value},(∀v∈a,kr k v=true)→uo a a=true
 | [],_=>rfl
 | a::vf,h=>by
  simp only [uo,and_eq_true]
  refine ⟨?_,aff fun v hv=>h v (by simp [hv])⟩
  have:=h a (by simp)
  unfold kr at this
  split at this
  ·simp [xS]
  ·cases this
theorem adn {a b:Value} (h:mS a b=true):a=b:=by
 unfold mS at h
 split at h
 ·rename_i s t
  simp at h
  have:=E9 s
  rw [h,E9] at this
  rw [this]
 ·rw [ext' (afe h)]
 ·exact afc h
theorem awd {g:fR} {a:Value} (h:fc g a=true):mS a a=true:=by
 unfold fc at h
 split at h
 ·unfold kr at h
  split at h
  ·simp [mS,xS]
  ·cases h
 ·simp [mS]
 ·simp only [and_eq_true,all_eq_true] at h
  exact aff fun v hv=>(h.2 v hv).1
 ·cases h
theorem awc {g:fR} {a b:Value} (h:fc g a=true):mS a b=true↔a=b:=⟨adn,fun e=>e ▸ awd h⟩
theorem KM {g:fR} {k:Value} (hk:fc g k=true):∀es:List (Nat×Value×Value),(ma k es=none∧∀e∈es,e.2.1≠k)∨∃j e,ma k es=some j∧es[j]?=some e∧e.2.1=k
 | []=>.inl ⟨rfl,by simp⟩
 | (b,k',v)::es=>by
  simp only [ma]
  by_cases h:mS k k'=true
  ·rw [if_pos h]
   exact .inr ⟨0,(b,k',v),rfl,rfl,(adn h).symm⟩
  ·rw [if_neg h]
   rcases KM hk es with ⟨h1,h2⟩ | ⟨j,e,h1,h2,h3⟩
   ·refine .inl ⟨by rw [h1];rfl,?_⟩
    intro e he
    rcases List.mem_cons.1 he with rfl | he
    ·intro e'
     exact h ((awc hk).2 e'.symm)
    ·exact h2 e he
   ·exact .inr ⟨j+1,e,by rw [h1];rfl,by simpa using h2,h3⟩
structure Gk (P:Program) (kt:TypeId) (g:fR):Prop where
 check:∀(w:World) (em:Bool) (v:Value),fc g v=true→(Instr.checkKey em 10000 kt v).run P w=.ok () w
 find:∀(w:World) (x:Value),fc g x=true→∀es:List MapEntry,(∀e∈es,fc g e.key=true)→
  ((Instr.findKey kt x es).run P w=.ok none w∧∀e∈es,e.key≠x)∨∃j e,(Instr.findKey kt x es).run P w=.ok (some (j,e.val)) w∧es[j]?=some e∧e.key=x
 stays:∀(w:World) (v:Value),fc g v=true→(Instr.keyThatStays v v).run P w=.ok v w
theorem akR {P:Program} {kt:TypeId} {g:fR} {d:TypeDesc} (hd:P.underlying kt=some d) (hg:∀v,fc g v=true→MapKept.IsKey d v):Gk P kt g where
 check w em v hv:=MapKept.run_checkKey hd (hg v hv) em 9999
 find w x hx es jj:=by
  rcases MapKept.findNow_spec (hg x hx) es 0 (fun e he=>hg _ (jj e he)) with ⟨h1,h2⟩ | ⟨j,e,h1,h2,h3⟩
  ·exact .inl ⟨MapKept.run_findKey hd h1,h2⟩
  ·exact .inr ⟨j,e,by simpa using MapKept.run_findKey hd h1,h2,h3⟩
 stays w v hv:=MapKept.run_keyThatStays (hg v hv)
section
variable {P : Program}
theorem afg {k:IntKind} {e:TypeId} {D:Nat} (he:P.underlying e=some (.int k)) (hc:P.cellsOf e=1) (cs:List Value) (h:∀v∈cs,(kr k v&&EV k v)=true):
  ∀m,m≤cs.length→∃ls,((List.range m).mapM fun i=>P.keyLits (D+1) e ((cs.drop (i*P.cellsOf e)).take (P.cellsOf e)))=some ls
 | 0,_=>⟨[],rfl⟩
 | m+1,hm=>by
  obtain ⟨ls,Re⟩:=afg he hc cs h m (by omega)
  have vR:m<cs.length:=by omega
  have hv:=h cs[m] (List.getElem_mem vR)
  rw [and_eq_true] at hv
  have h1:(cs.drop (m*P.cellsOf e)).take (P.cellsOf e)=[cs[m]]:=by
   rw [hc,Nat.mul_one]
   apply List.ext_getElem?
   intro i
   rw [List.getElem?_take]
   cases i with
   | zero=>simp [vR]
   | succ i=>simp
  generalize cs[m]=v at hv h1
  obtain ⟨k',n,rfl⟩:∃k' n,v=.int k' n:=by
   cases v <;> first | exact ⟨_,_,rfl⟩ | simp [kr] at hv
  have hk:k'=k:=by simpa [kr] using hv.1
  subst hk
  have hr:k'.min≤n∧n≤k'.max:=by simpa [EV] using hv.2
  have hw:(Lit.int k' n).wf=true:=by simp [Lit.wf,hr]
  refine ⟨ls++[[.int k' n]],?_⟩
  rw [List.range_succ,List.mapM_append,Re]
  simp [h1,Program.keyLits,he,hw]
theorem axV {kt e:TypeId} {n:Nat} {k:IntKind} (hu:P.underlying kt=some (.array n e)) (he:P.underlying e=some (.int k)) (hc1:P.cellsOf e=1) (QP:P.cellsOf kt=n) (kn:P.types.size≠0):Gk P kt (.ints n k):=by
 have A:WideMaps.ArrKey P kt e n:=⟨hu,by simp [Program.plainKey,he],hc1,QP⟩
 have key:∀v,fc (.ints n k) v=true→∃l,keyOf P kt v=some l:=by
  intro v hv
  cases v <;> simp [fc] at hv
  rename_i cs
  obtain ⟨h1,h2⟩:=hv
  have hkt:=A.keyType ⟨P.types.size-1,by omega⟩
  obtain ⟨D,hD⟩:∃D,P.types.size=D+1:=⟨P.types.size-1,by omega⟩
  obtain ⟨ls,Re⟩:=afg (D:=D) he hc1 cs.toList (fun v hv=>by obtain ⟨i,hi,e⟩:=List.mem_iff_getElem.1 hv;have:=h2 i (by simpa using hi);rw [←e];simpa using this) n (by simp [h1])
  refine ⟨.string (keyBytes ls.flatten),?_⟩
  unfold keyOf
  rw [hu]
  have hf:(Value.agg cs).formed P kt=true:=by simp [Value.formed,hu,QP,h1]
  simp only [hkt,hf,Bool.and_self,if_true]
  unfold Program.keyLits
  rw [hu]
  have hl:(Value.agg cs).cells.toList.length=P.cellsOf kt:=by simp [Value.cells,QP,h1]
  simp only [hl,if_true,hD]
  have:(Value.agg cs).cells.toList=cs.toList:=rfl
  rw [this,Re]
  rfl
 have K:=A.law
 exact {
  check:=fun w em v hv=>let ⟨l,hl⟩:=key v hv;K.check w em hl
  find:=fun w x hx es jj=>let ⟨l,hl⟩:=key x hx;K.find w hl es fun e he=>key _ (jj e he)
  stays:=fun w v hv=>let ⟨l,hl⟩:=key v hv;K.stays w hl }
theorem IU {t:TypeId} {g:fR} (h:rM P t=some g):∃kt et,P.underlying t=some (.map kt et)∧Gk P kt g:=by
 unfold rM at h
 split at h
 ·rename_i kt et ht
  refine ⟨kt,et,ht,?_⟩
  split at h
  ·cases h
  ·split at h
   ·rename_i hk
    simp at h;subst h
    exact akR hk fun v hv=>by cases v <;> simp [fc] at hv;trivial
   ·rename_i k hk
    simp at h;subst h
    exact akR hk fun v hv=>by cases v <;> simp [fc,kr] at hv;exact hv
   ·rename_i n e hk
    split at h
    ·rename_i k he
     split at h
     ·rename_i hc
      simp at h;subst h
      simp at hc
      exact axV hk he hc.1.1 hc.1.2 (by rw [Ne,Array.size_eq_zero_iff];exact hc.2)
     ·cases h
    ·cases h
   ·cases h
 ·cases h
end
section
variable {P : Program} {w : World} {ρ : aL} {h : ae}
structure sH (ρ:aL) (g:fR) (es:List (Nat×Value×Value)) (aK:Array MapEntry):Prop where
 size:aK.size=es.length
 nodup:(es.map fun e=>e.2.1).Nodup
 get:∀(j b:Nat) (k v:Value),es[j]?=some (b,k,v)→fc g k=true∧∃en,aK[j]?=some en∧en.key=k∧en.born=b∧ax ρ v en.val
theorem aY.Bm (H:aY P ρ h w) {i:Nat} {r:RI} {g:fR} {c:Nat} {es:List (Nat×Value×Value)} (hi:ρ i=some r) (he:h[i]?=some (.di g c es)):
  ∃aK,w.heap[r.bz]?=some (.map aK c)∧sH ρ g es aK:=by
 obtain ⟨o,ho,hr⟩:=H.obj i r hi
 rw [he] at ho
 cases ho
 obtain ⟨h0,aK,h1,h2,h3⟩:=hr
 exact ⟨aK,h1,h2,h0,h3⟩
theorem sH.inv {g:fR} {es:List (Nat×Value×Value)} {aK:Array MapEntry} (E:sH ρ g es aK) {j:Nat} {en:MapEntry} (hj:aK[j]?=some en):∃v,es[j]?=some (en.born,en.key,v)∧fc g en.key=true∧ax ρ v en.val:=by
 have aD:j<es.length:=by rw [←E.size];exact (Array.getElem?_eq_some_iff.1 hj).1
 obtain ⟨b,k,v⟩:Nat×Value×Value:=es[j]
 have jj:=List.getElem?_eq_getElem aD
 generalize he:es[j]=x at jj
 obtain ⟨b,k,v⟩:=x
 obtain ⟨g1,en',g2,g3,g4,g5⟩:=E.get j b k v jj
 rw [hj] at g2
 cases g2
 subst g3;subst g4
 exact ⟨v,jj,g1,g5⟩
theorem Vc {g:fR} {kt:TypeId} {es:List (Nat×Value×Value)} {aK:Array MapEntry} (L:Gk P kt g) (E:sH ρ g es aK) {k:Value} (hk:fc g k=true):
  ((ma k es=none∧(∀e∈es,e.2.1≠k))∧(Instr.findKey kt k aK.toList).run P w=.ok none w)∨
  ∃j b v en,ma k es=some j∧es[j]?=some (b,k,v)∧aK[j]?=some en∧en.key=k∧en.born=b∧ax ρ v en.val∧(Instr.findKey kt k aK.toList).run P w=.ok (some (j,en.val)) w:=by
 have fJ:∀e∈aK.toList,fc g e.key=true:=by
  intro e he
  obtain ⟨j,hj,e'⟩:=List.mem_iff_getElem.1 he
  have:aK[j]?=some e:=by
   rw [←getElem?_toList,List.getElem?_eq_getElem hj,e']
  exact (E.inv this).choose_spec.2.1
 rcases L.find w k hk aK.toList fJ with ⟨h1,h2⟩ | ⟨j,en,h1,h2,h3⟩
 ·rcases KM hk es with ⟨p1,p2⟩ | ⟨j,e,p1,p2,p3⟩
  ·exact .inl ⟨⟨p1,p2⟩,h1⟩
  ·exfalso
   obtain ⟨b,k',v⟩:=e
   obtain ⟨_,en,q1,q2,_⟩:=E.get j b k' v p2
   have hm:en∈aK.toList:=by
    rw [←getElem?_toList] at q1
    exact mem_of_getElem? q1
   exact h2 en hm (q2.trans p3)
 ·have h2':aK[j]?=some en:=by rw [←getElem?_toList];exact h2
  obtain ⟨v,q1,q2,q3⟩:=E.inv h2'
  rcases KM hk es with ⟨p1,p2⟩ | ⟨j',e,p1,p2,p3⟩
  ·exact absurd h3 (p2 _ (mem_of_getElem? q1))
  ·have hj:j'=j:=by
    have hn:=List.pairwise_iff_getElem.1 E.nodup
    have l1:j<es.length:=(bD q1).1
    have l2:j'<es.length:=(bD p2).1
    have k1:(es.map fun e=>e.2.1)[j]'(by simpa using l1)=k:=by
     have:=(bD q1).2
     simp [this,h3]
    have k2:(es.map fun e=>e.2.1)[j']'(by simpa using l2)=k:=by
     have:=(bD p2).2
     simp [this,p3]
    rcases Nat.lt_trichotomy j j' with aD | heq | aD
    ·exact absurd (k1.trans k2.symm) (hn j j' _ _ aD)
    ·exact heq.symm
    ·exact absurd (k2.trans k1.symm) (hn j' j _ _ aD)
   subst hj
   exact .inr ⟨_,_,v,en,p1,by rw [q1,h3],h2',h3,rfl,q3,h1⟩
theorem AR.rel {z:Value} (h:AR z=true):ax ρ z z:=by
 unfold AR at h
 split at h
 ·rename_i cs
  rw [all_eq_true] at h
  have cl:∀x∈cs.toList,mm x=true∧gA x=true:=fun x hx=>by have:=h x hx;simpa [Bf] using this
  refine .agg rfl (fun x hx=>(cl x hx).2) (fun k x x' hx bS=>?_)
  rw [hx] at bS
  cases bS
  exact mm.rel (cl x (by rw [←getElem?_toList] at hx;exact mem_of_getElem? hx)).1
 ·exact mm.rel h
theorem aDZ (H:aY P ρ h w) {it EW v:Value} (hi:zX h it=some v) (hv:ax ρ it EW):∃v',(Instr.entry EW).run P w=.ok v' w∧ax ρ v v':=by
 unfold zX at hi
 split at hi
 ·rename_i j
  split at hi
  ·rename_i i kB seen last sW
   split at hi
   ·rename_i g c es b jj hb
    split at hi
    ·rename_i fU
     subst fU
     cases hv with
     | ptr hr=>
      rename_i r
      obtain ⟨o,ho,nL⟩:=H.obj j r hr
      rw [sW] at ho
      cases ho
      obtain ⟨xL,rm,Jq,sS⟩:=nL
      obtain ⟨aK,hm,E⟩:=H.Bm Jq jj
      rw [xL]
      rw [map_eq_some_iff] at hi
      obtain ⟨e,he,rfl⟩:=hi
      have awz:∃en,aK.find? (fun x=>x.born==b)=some en∧en.key=e.2.1∧fc g e.2.1=true∧ax ρ e.2.2 en.val:=by
       rw [←Array.find?_toList]
       have key:∀(l1:List (Nat×Value×Value)) (l2:List MapEntry),l2.length=l1.length→(∀(j b:Nat) (k v:Value),l1[j]?=some (b,k,v)→fc g k=true∧∃en,l2[j]?=some en∧en.key=k∧en.born=b∧ax ρ v en.val)→
         l1.find? (fun x=>x.1==b)=some e→∃en,l2.find? (fun x=>x.born==b)=some en∧en.key=e.2.1∧fc g e.2.1=true∧ax ρ e.2.2 en.val:=by
        intro l1
        induction l1 with
        | nil=>intro l2 _ _ h;simp at h
        | cons x l1 ih=>
         intro l2 hl fJ hf
         obtain ⟨bx,kx,vx⟩:=x
         cases l2 with
         | nil=>simp at hl
         | cons y l2=>
          obtain ⟨g1,en,g2,g3,g4,g5⟩:=fJ 0 bx kx vx rfl
          simp at g2
          subst g2
          rw [List.find?_cons] at hf⊢
          by_cases BE:(bx==b)=true
          ·simp only [BE] at hf
           cases hf
           rw [g4]
           simp only [BE]
           exact ⟨y,rfl,g3,g1,g5⟩
          ·have BE:(bx==b)=false:=by simpa using BE
           simp only [BE] at hf
           rw [g4]
           simp only [BE]
           exact ih l2 (by simpa using hl) (fun j b k v hj=>by simpa using fJ (j+1) b k v (by simpa using hj)) hf
       exact key es aK.toList (by simp [E.size]) (fun j b k v hj=>by simpa using E.get j b k v hj) he
      obtain ⟨en,f1,f2,f3,f4⟩:=awz
      have bT:(getObj r.bz).run P w=.ok (.mapIter (some rm.bz) kB seen.toArray c) w:=by simp [getObj,Sem.run,sS]
      have Q0:(getObj rm.bz).run P w=.ok (.map aK c) w:=by simp [getObj,Sem.run,hm]
      have zh:seen.toArray.back?=some b:=by simpa using hb
      refine ⟨.tuple #[en.key,en.val],?_,?_⟩
      ·unfold Instr.entry
       simp [bT,Q0,hb,f1]
      ·rw [f2]
       have Rc:ax ρ e.2.1 e.2.1:=by
        have ints:∀{kd:IntKind} {v:Value},kr kd v=true→ax ρ v v∧gA v=true:=by
         intro kd v hv
         cases v <;> simp [kr] at hv
         exact ⟨.int _ _,rfl⟩
        cases xG:e.2.1 with
        | int kd n=>exact .int _ _
        | string s=>exact .string _
        | agg cs=>
         rw [xG] at f3
         cases g with
         | ints n kd=>
          simp only [fc,and_eq_true,all_eq_true] at f3
          refine .agg rfl (fun x hx=>(ints (f3.2 x hx).1).2) (fun k x x' hx bS=>?_)
          rw [hx] at bS
          cases bS
          exact (ints (f3.2 x (by rw [←getElem?_toList] at hx;exact mem_of_getElem? hx)).1).1
         | int _=>simp [fc,kr] at f3
         | str=>simp [fc] at f3
        | _=>rw [xG] at f3;cases g <;> simp [fc,kr] at f3
       exact ax.sr (.cons Rc (.cons f4 .nil))
    ·cases hi
   ·cases hi
  ·cases hi
 ·cases hi
theorem aFK {t:TypeId} {z:Value} (hz:LU P t=some z):(∀w,(zeroValue t).run P w=.ok z w)∧AR z=true:=by
 unfold LU at hz
 split at hz
 ·rename_i i hi
  split at hz
  ·rename_i z' rX
   split at hz
   ·rename_i hc
    simp at hz;subst hz
    exact ⟨fun w=>AF w hi rX,hc⟩
   ·cases hz
  ·cases hz
 ·cases hz
theorem ax.key {g:fR} {k k':Value} (hk:fc g k=true) (h:ax ρ k k'):k'=k:=by
 have ints:∀{kd:IntKind} {v v':Value},kr kd v=true→ax ρ v v'→v'=v:=by
  intro kd v v' hv hr
  cases hr <;> first | rfl | simp [kr] at hv
 cases h with
 | int=>rfl
 | string=>rfl
 | agg hs _ fJ=>
  rename_i xs xs' _
  cases g with
  | ints n kd=>
   simp only [fc,and_eq_true,all_eq_true] at hk
   congr 1
   apply Array.ext
   ·exact hs.symm
   ·intro i h1 h2
    exact ints (hk.2 xs[i] (by simp)).1 (fJ i _ _ (getElem?_eq_getElem h2) (getElem?_eq_getElem h1))
  | int _=>simp [fc,kr] at hk
  | str=>simp [fc] at hk
 | _=>cases g <;> simp [fc,kr] at hk
theorem aD7 (H:aY P ρ h w) {t kt et:TypeId} {g:fR} {ok:Bool} {z m m' k k' v:Value} (hg:rM P t=some g) (ht:P.underlying t=some (.map kt et)) (hz:LU P et=some z)
  (hi:zZ g ok z h m k=some v) (hm:ax ρ m m') (lh:ax ρ k k'):∃v',(Instr.lookup t m' k' ok).run P w=.ok v' w∧ax ρ v v':=by
 obtain ⟨kt',et',RF,L⟩:=IU hg
 rw [ht] at RF
 cases RF
 unfold zZ at hi
 split at hi
 ·rename_i i
  cases hm with
  | map hr=>
   rename_i r
   split at hi
   ·rename_i g' c es he
    split at hi
    ·rename_i mB
     obtain ⟨rfl,hk⟩:=mB
     rw [lh.key hk]
     have al2:∀{aK:Array MapEntry} {clock:Nat},w.heap[r.bz]?=some (.map aK clock)→(getObj r.bz).run P w=.ok (.map aK clock) w:=by
      intro aK clock hb
      simp [getObj,Sem.run,hb]
     obtain ⟨aK,hb,E⟩:=H.Bm hr he
     obtain ⟨p7,lU⟩:=aFK hz
     rcases Vc (w:=w) L E hk with ⟨⟨e1,_⟩,e2⟩ | ⟨j,b,u,en,e1,e2,e3,e4,e5,e6,e7⟩
     ·have:rL k es=none:=by simp [rL,e1]
      rw [this] at hi
      simp at hi
      have gw:(Instr.lookup t (.map (some r.bz)) k ok).run P w=.ok (if ok then .tuple #[z,.bool false] else z) w:=by
       simp [Instr.lookup,run_underlying ht,al2 hb,L.check w _ k hk,e2,p7]
      refine ⟨_,gw,?_⟩
      subst hi
      cases ok
      ·exact AR.rel lU
      ·exact ax.sr (.cons (AR.rel lU) (.cons (.bool _) .nil))
     ·have:rL k es=some u:=by simp [rL,e1,e2]
      rw [this] at hi
      simp at hi
      have gw:(Instr.lookup t (.map (some r.bz)) k ok).run P w=.ok (if ok then .tuple #[en.val,.bool true] else en.val) w:=by
       simp [Instr.lookup,run_underlying ht,al2 hb,L.check w _ k hk,e7]
      refine ⟨_,gw,?_⟩
      subst hi
      cases ok
      ·exact e6
      ·exact ax.sr (.cons e6 (.cons (.bool _) .nil))
    ·cases hi
   ·cases hi
 ·cases hi
end
end
section
inductive mN (ρ:aL):List (ByteArray×Value)→List MapEntry→Prop
 | nil:mN ρ [] []
 | cons {k:ByteArray} {v:Value} {en:MapEntry} {es:List (ByteArray×Value)} {aK:List MapEntry}:en.key=.string k→ax ρ v en.val→mN ρ es aK→mN ρ ((k,v)::es) (en::aK)
theorem mN.of {ρ:aL}:∀{es:List (ByteArray×Value)} {aK:List MapEntry},aK.length=es.length→
  (∀(j:Nat) (k:ByteArray) (v:Value),es[j]?=some (k,v)→∃en,aK[j]?=some en∧en.key=.string k∧ax ρ v en.val)→mN ρ es aK
 | [],[],_,_=>.nil
 | (k,v)::es,en::aK,hl,h=>by
  obtain ⟨en',h1,h2,h3⟩:=h 0 k v rfl
  simp at h1;subst h1
  exact .cons h2 h3 (mN.of (by simpa using hl) fun j k' v' hj=>by simpa using h (j+1) k' v' (by simpa using hj))
theorem mN.to {ρ:aL} {es:List (ByteArray×Value)} {aK:List MapEntry} (h:mN ρ es aK):
  aK.length=es.length∧∀(j:Nat) (k:ByteArray) (v:Value),es[j]?=some (k,v)→∃en,aK[j]?=some en∧en.key=.string k∧ax ρ v en.val:=by
 induction h with
 | nil=>exact ⟨rfl,fun j k v hj=>by simp at hj⟩
 | cons h1 h2 _ ih=>
  refine ⟨by simp [ih.1],?_⟩
  intro j k v hj
  cases j with
  | zero=>simp at hj;obtain ⟨rfl,rfl⟩:=hj;exact ⟨_,rfl,h1,h2⟩
  | succ j=>simp at hj;simpa using ih.2 j k v hj
theorem mN.mono {ρ av:aL} (hle:ρ.le av) {es:List (ByteArray×Value)} {aK:List MapEntry} (h:mN ρ es aK):mN av es aK:=by
 induction h with
 | nil=>exact .nil
 | cons h1 h2 _ ih=>exact .cons h1 (h2.mono hle) ih
theorem avU {ρ:aL} {es:List (ByteArray×Value)} {aK:List MapEntry} (h:mN ρ es aK) (k:ByteArray):∀i:Nat,
  (vD k es=none∧Instr.findNow .string (.string k) aK i=some none)∨
  (∃v v' j,vD k es=some v∧Instr.findNow .string (.string k) aK i=some (some (i+j,v'))∧ax ρ v v'∧(∃en,aK[j]?=some en∧en.key=.string k)):=by
 induction h with
 | nil=>intro i;exact .inl ⟨rfl,rfl⟩
 | cons h1 h2 _ ih=>
  rename_i k0 v0 en es aK _
  intro i
  by_cases hk:k=k0
  ·subst hk
   refine .inr ⟨v0,en.val,0,by simp [vD],?_,h2,en,rfl,h1⟩
   have hb:(k==k)=true:=(MapKept.bytes_beq k k).2 rfl
   simp [Instr.findNow,h1,Instr.sameNow,hb]
  ·have hb:(k==k0)=false:=by
    rw [Bool.eq_false_iff]
    exact fun e=>hk ((MapKept.bytes_beq k k0).1 e)
   rcases ih (i+1) with ⟨e1,e2⟩ | ⟨v,v',j,e1,e2,e3,e4⟩
   ·refine .inl ⟨by simp [vD,hk,e1],?_⟩
    simp [Instr.findNow,h1,Instr.sameNow,hb,e2]
   ·refine .inr ⟨v,v',j+1,by simp [vD,hk,e1],?_,e3,?_⟩
    ·simp [Instr.findNow,h1,Instr.sameNow,hb,e2];omega
    ·simpa using e4
inductive mO (kd:IntKind) (ρ:aL):List (Int×Value)→List MapEntry→Prop
 | nil:mO kd ρ [] []
 | cons {k:Int} {v:Value} {en:MapEntry} {es:List (Int×Value)} {aK:List MapEntry}:en.key=.int kd k→ax ρ v en.val→mO kd ρ es aK→mO kd ρ ((k,v)::es) (en::aK)
theorem mO.of {kd:IntKind} {ρ:aL}:∀{es:List (Int×Value)} {aK:List MapEntry},aK.length=es.length→
  (∀(j:Nat) (k:Int) (v:Value),es[j]?=some (k,v)→∃en,aK[j]?=some en∧en.key=.int kd k∧ax ρ v en.val)→mO kd ρ es aK
 | [],[],_,_=>.nil
 | (k,v)::es,en::aK,hl,h=>by
  obtain ⟨en',h1,h2,h3⟩:=h 0 k v rfl
  simp at h1;subst h1
  exact .cons h2 h3 (mO.of (by simpa using hl) fun j k' v' hj=>by simpa using h (j+1) k' v' (by simpa using hj))
theorem mO.to {kd:IntKind} {ρ:aL} {es:List (Int×Value)} {aK:List MapEntry} (h:mO kd ρ es aK):
  aK.length=es.length∧∀(j:Nat) (k:Int) (v:Value),es[j]?=some (k,v)→∃en,aK[j]?=some en∧en.key=.int kd k∧ax ρ v en.val:=by
 induction h with
 | nil=>exact ⟨rfl,fun j k v hj=>by simp at hj⟩
 | cons h1 h2 _ ih=>
  refine ⟨by simp [ih.1],?_⟩
  intro j k v hj
  cases j with
  | zero=>simp at hj;obtain ⟨rfl,rfl⟩:=hj;exact ⟨_,rfl,h1,h2⟩
  | succ j=>simp at hj;simpa using ih.2 j k v hj
theorem mO.mono {kd:IntKind} {ρ av:aL} (hle:ρ.le av) {es:List (Int×Value)} {aK:List MapEntry} (h:mO kd ρ es aK):mO kd av es aK:=by
 induction h with
 | nil=>exact .nil
 | cons h1 h2 _ ih=>exact .cons h1 (h2.mono hle) ih
theorem avV {kd:IntKind} {ρ:aL} {es:List (Int×Value)} {aK:List MapEntry} (h:mO kd ρ es aK) (k:Int):∀i:Nat,
  (pa k es=none∧Instr.findNow (.int kd) (.int kd k) aK i=some none)∨
  (∃v v' j,pa k es=some v∧Instr.findNow (.int kd) (.int kd k) aK i=some (some (i+j,v'))∧ax ρ v v'∧(∃en,aK[j]?=some en∧en.key=.int kd k)):=by
 induction h with
 | nil=>intro i;exact .inl ⟨rfl,rfl⟩
 | cons h1 h2 _ ih=>
  rename_i k0 v0 en es aK _
  intro i
  by_cases hk:k=k0
  ·subst hk
   refine .inr ⟨v0,en.val,0,by simp [pa],?_,h2,en,rfl,h1⟩
   have hb:(k==k)=true:=beq_self_eq_true k
   simp [Instr.findNow,h1,Instr.sameNow]
  ·have hb:(k==k0)=false:=by
    exact beq_false_of_ne hk
   rcases ih (i+1) with ⟨e1,e2⟩ | ⟨v,v',j,e1,e2,e3,e4⟩
   ·refine .inl ⟨by simp [pa,hk,e1],?_⟩
    simp [Instr.findNow,h1,Instr.sameNow,hb,e2]
   ·refine .inr ⟨v,v',j+1,by simp [pa,hk,e1],?_,e3,?_⟩
    ·simp [Instr.findNow,h1,Instr.sameNow,hb,e2];omega
    ·simpa using e4
section
variable {P : Program} {w : World} {ρ : aL} {h : ae}
theorem afm {t:TypeId} (h:isString P t=true):P.underlying t=some .string:=by
 unfold isString at h
 split at h
 ·assumption
 ·cases h
theorem run_checkKey (b:Bool) {kt:TypeId} (hk:P.underlying kt=some .string) (k:ByteArray):(Instr.checkKey b 10000 kt (.string k)).run P w=.ok () w:=by
 rw [show (10000:Nat)=9999+1 from rfl,Instr.checkKey]
 simp [run_underlying hk]
theorem run_findKey {kt:TypeId} (hk:P.underlying kt=some .string) (k:ByteArray) (aK:List MapEntry) {r:Option (Nat×Value)} (hr:Instr.findNow .string (.string k) aK 0=some r):
  (Instr.findKey kt (.string k) aK).run P w=.ok r w:=by
 simp [Instr.findKey,run_underlying hk,hr]
theorem K7 (b:Bool) {kt:TypeId} {kd:IntKind} (hk:P.underlying kt=some (.int kd)) (k:Int):(Instr.checkKey b 10000 kt (.int kd k)).run P w=.ok () w:=by
 rw [show (10000:Nat)=9999+1 from rfl,Instr.checkKey]
 simp [run_underlying hk]
theorem K8 {kt:TypeId} {kd:IntKind} (hk:P.underlying kt=some (.int kd)) (k:Int) (aK:List MapEntry) {r:Option (Nat×Value)} (hr:Instr.findNow (.int kd) (.int kd k) aK 0=some r):
  (Instr.findKey kt (.int kd k) aK).run P w=.ok r w:=by
 simp [Instr.findKey,run_underlying hk,hr]
theorem aY.aK (H:aY P ρ h w) {i:Nat} {r:RI} {es:List (ByteArray×Value)} (hi:ρ i=some r) (he:h[i]?=some (.smap es)):
  ∃aK clock,w.heap[r.bz]?=some (.map aK clock)∧mN ρ es aK.toList:=by
 obtain ⟨o,ho,hr⟩:=H.obj i r hi
 rw [he] at ho
 cases ho
 obtain ⟨aK,clock,h1,h2,h3⟩:=hr
 exact ⟨aK,clock,h1,mN.of (by simpa using h2) (by simpa using h3)⟩
theorem aY.acS (H:aY P ρ h w) {i:Nat} {r:RI} {kd:IntKind} {es:List (Int×Value)} (hi:ρ i=some r) (he:h[i]?=some (.kQ kd es)):
  ∃aK clock,w.heap[r.bz]?=some (.map aK clock)∧mO kd ρ es aK.toList:=by
 obtain ⟨o,ho,hr⟩:=H.obj i r hi
 rw [he] at ho
 cases ho
 obtain ⟨aK,clock,h1,h2,h3⟩:=hr
 exact ⟨aK,clock,h1,mO.of (by simpa using h2) (by simpa using h3)⟩
theorem run_getObj_map {b:Nat} {aK:Array MapEntry} {clock:Nat} (hb:w.heap[b]?=some (.map aK clock)):(getObj b).run P w=.ok (.map aK clock) w:=by
 simp [getObj,Sem.run,hb]
theorem amT {t:TypeId} {z:Value} (hz:CY P t=some z):(∀w,(zeroValue t).run P w=.ok z w)∧mm z=true:=by
 unfold CY at hz
 split at hz
 ·rename_i i hi
  split at hz
  ·rename_i z' rX
   split at hz
   ·rename_i hc
    simp at hz;subst hz
    simp [Bf] at hc
    exact ⟨fun w=>AF w hi rX,hc.1⟩
   ·cases hz
  ·cases hz
 ·cases hz
theorem aD6 (H:aY P ρ h w) {t kt et:TypeId} {ok:Bool} {z m m' k k' v:Value} (ht:P.underlying t=some (.map kt et)) (hk:isString P kt=true) (hz:CY P et=some z)
  (hi:Jx ok z h m k=some v) (hm:ax ρ m m') (lh:ax ρ k k'):∃v',(Instr.lookup t m' k' ok).run P w=.ok v' w∧ax ρ v v':=by
 unfold Jx at hi
 split at hi
 ·rename_i i key
  rw [lh.wJ]
  cases hm with
  | map hr=>
   rename_i r
   split at hi
   ·rename_i es he
    obtain ⟨aK,clock,hb,zz⟩:=H.aK hr he
    obtain ⟨p7,lU⟩:=amT hz
    have mC:=afm hk
    rcases avU zz key 0 with ⟨e1,e2⟩ | ⟨u,u',j,e1,e2,e3,_⟩
    ·rw [e1] at hi
     simp at hi
     have gw:(Instr.lookup t (.map (some r.bz)) (.string key) ok).run P w=.ok (if ok then .tuple #[z,.bool false] else z) w:=by
      simp [Instr.lookup,run_underlying ht,run_getObj_map hb,run_checkKey _ mC,run_findKey mC key _ e2,p7]
     refine ⟨_,gw,?_⟩
     subst hi
     cases ok
     ·exact mm.rel lU
     ·exact ax.sr (.cons (mm.rel lU) (.cons (.bool _) .nil))
    ·rw [e1] at hi
     simp at hi
     have gw:(Instr.lookup t (.map (some r.bz)) (.string key) ok).run P w=.ok (if ok then .tuple #[u',.bool true] else u') w:=by
      simp [Instr.lookup,run_underlying ht,run_getObj_map hb,run_checkKey _ mC,run_findKey mC key _ e2]
     refine ⟨_,gw,?_⟩
     subst hi
     cases ok
     ·exact e3
     ·exact ax.sr (.cons e3 (.cons (.bool _) .nil))
   ·cases hi
 ·cases hi
theorem afj {t:TypeId} {kd:IntKind} (h:Af P t=some kd):P.underlying t=some (.int kd):=by
 unfold Af at h
 split at h
 ·simp at h;subst h;assumption
 ·cases h
theorem aD8 (H:aY P ρ h w) {t kt et:TypeId} {kd:IntKind} {ok:Bool} {z m m' k k' v:Value} (ht:P.underlying t=some (.map kt et)) (hk:Af P kt=some kd) (hz:CY P et=some z)
  (hi:Jy kd ok z h m k=some v) (hm:ax ρ m m') (lh:ax ρ k k'):∃v',(Instr.lookup t m' k' ok).run P w=.ok v' w∧ax ρ v v':=by
 unfold Jy at hi
 split at hi
 ·rename_i i Ce key
  rw [lh.mE]
  cases hm with
  | map hr=>
   rename_i r
   split at hi
   ·rename_i nN es he
    split at hi
    ·rename_i mB
     obtain ⟨rfl,rfl⟩:=mB
     obtain ⟨aK,clock,hb,zz⟩:=H.acS hr he
     obtain ⟨p7,lU⟩:=amT hz
     have mC:=afj hk
     rcases avV zz key 0 with ⟨e1,e2⟩ | ⟨u,u',j,e1,e2,e3,_⟩
     ·rw [e1] at hi
      simp at hi
      have gw:(Instr.lookup t (.map (some r.bz)) (.int nN key) ok).run P w=.ok (if ok then .tuple #[z,.bool false] else z) w:=by
       simp [Instr.lookup,run_underlying ht,run_getObj_map hb,K7 _ mC,K8 mC key _ e2,p7]
      refine ⟨_,gw,?_⟩
      subst hi
      cases ok
      ·exact mm.rel lU
      ·exact ax.sr (.cons (mm.rel lU) (.cons (.bool _) .nil))
     ·rw [e1] at hi
      simp at hi
      have gw:(Instr.lookup t (.map (some r.bz)) (.int nN key) ok).run P w=.ok (if ok then .tuple #[u',.bool true] else u') w:=by
       simp [Instr.lookup,run_underlying ht,run_getObj_map hb,K7 _ mC,K8 mC key _ e2]
      refine ⟨_,gw,?_⟩
      subst hi
      cases ok
      ·exact e3
      ·exact ax.sr (.cons e3 (.cons (.bool _) .nil))
    ·cases hi
   ·cases hi
 ·cases hi
theorem aza {o:Oper} {lo:pH} {g g':Operand→Value} (hc:vk P o.op=some lo) (aH:o.op.operands.all jC=true) (H:aY P ρ h w)
  (hg:∀x,jC x=true→ax ρ (g x) (g' x)) {v:Value} (hi:fC lo g h=some v):∃v',(execOp g' o).run P w=.ok (.value v') w∧ax ρ v v':=by
 cases ho:o.op with
 | load t a=>
  rw [ho] at hc aH
  simp [Op.operands] at aH
  simp only [vk] at hc
  split at hc
  ·rename_i d ht
   split at hc
   ·rename_i hk
    simp at hc;subst hc
    simp only [and_eq_true] at hk
    obtain ⟨v',h1,h2⟩:=al5 H ht hk.1 hi (hg a aH)
    exact ⟨v',by simp [execOp,ho,h1],h2⟩
   ·cases hc
  ·cases hc
 | entry it=>
  rw [ho] at hc aH
  simp [Op.operands] at aH
  simp [vk] at hc;subst hc
  obtain ⟨v',h1,h2⟩:=aDZ H hi (hg it aH)
  exact ⟨v',by simp [execOp,ho,h1],h2⟩
 | convert s d x=>
  rw [ho] at hc aH
  simp [Op.operands] at aH
  simp only [vk] at hc
  split at hc
  ·rename_i e hs hd
   split at hc
   ·rename_i he
    simp at hc;subst hc
    have hx:=hg x aH
    obtain ⟨h1,h2⟩:=aDS H hi hx
    refine ⟨v,?_,h2⟩
    have:(convert s d (g' x)).run P w=.ok v w:=by
     simp only [fC,rY,bind_eq_some_iff] at hi
     obtain ⟨cs,pR,_⟩:=hi
     rcases Li H pR hx with ⟨e1,_⟩ | ⟨b,o',n,c',e1,_⟩
     ·rw [e1] at h1⊢;rw [run_convert_bytes_string w s d e _ _ _ hs he hd];exact h1
     ·rw [e1] at h1⊢;rw [run_convert_bytes_string w s d e _ _ _ hs he hd];exact h1
    simp [execOp,ho,this]
   ·cases hc
  ·cases hc
 | lookup t m k ok=>
  rw [ho] at hc aH
  simp [Op.operands] at aH
  simp only [vk] at hc
  split at hc
  ·rename_i g kK
   split at hc
   ·rename_i kt et ht
    simp only [map_eq_some_iff] at hc
    obtain ⟨z,hz,rfl⟩:=hc
    obtain ⟨v',h1,h2⟩:=aD7 H kK ht hz hi (hg m aH.1) (hg k aH.2)
    exact ⟨v',by simp [execOp,ho,h1],h2⟩
   ·cases hc
  split at hc
  ·rename_i kt et ht
   split at hc
   ·rename_i hk
    simp only [map_eq_some_iff] at hc
    obtain ⟨z,hz,rfl⟩:=hc
    obtain ⟨v',h1,h2⟩:=aD6 H ht hk hz hi (hg m aH.1) (hg k aH.2)
    exact ⟨v',by simp [execOp,ho,h1],h2⟩
   ·simp only [bind_eq_some_iff,map_eq_some_iff] at hc
    obtain ⟨kd,mB,z,hz,rfl⟩:=hc
    obtain ⟨v',h1,h2⟩:=aD8 H ht mB hz hi (hg m aH.1) (hg k aH.2)
    exact ⟨v',by simp [execOp,ho,h1],h2⟩
  ·cases hc
 | _=>rw [ho] at hc;simp [vk] at hc
end
end
section
theorem Lc {xs:List Value} {o:Nat} {vs:List Value} (h:o+vs.length≤xs.length) (j:Nat):
  (setAt xs o vs)[j]?=if j<o then xs[j]? else if j<o+vs.length then vs[j-o]? else xs[j]?:=by
 have hl:(xs.take o).length=o:=by simp;omega
 unfold setAt
 by_cases h1:j<o
 ·rw [if_pos h1,List.append_assoc,getElem?_append_left (by omega),List.getElem?_take,if_pos h1]
 ·rw [if_neg h1]
  by_cases h2:j<o+vs.length
  ·rw [if_pos h2,List.append_assoc,List.getElem?_append_right (by omega),hl,getElem?_append_left (by omega)]
  ·rw [if_neg h2,List.getElem?_append_right (by simp;omega),List.getElem?_drop]
   congr 1
   simp
   omega
theorem Vr {xs:List Value} {o:Nat} {vs:List Value} (h:o+vs.length≤xs.length):(setAt xs o vs).length=xs.length:=by
 unfold setAt
 simp
 omega
theorem fY.le {ρ:aL} {c:Array Value} {xs:List Value} (h:fY ρ c 0 xs):xs.length≤c.size:=by
 rcases Nat.eq_zero_or_pos xs.length with hz | hz
 ·omega
 ·have hx:xs[xs.length-1]?=some (xs[xs.length-1]'(by omega)):=List.getElem?_eq_getElem _
  obtain ⟨_,y,hy,_⟩:=h _ _ hx
  have:=(Array.getElem?_eq_some_iff.1 hy).1
  omega
theorem fY.put {ρ:aL} {c:Array Value} {xs:List Value} {o:Nat} {vs ju:List Value} (h:fY ρ c 0 xs) (hv:bF ρ vs ju) (h1:∀x∈vs,gA x=true) (hl:o+vs.length≤xs.length):
  fY ρ (setAt c.toList o ju).toArray 0 (setAt xs o vs):=by
 intro j x hj
 have fU:=h.le
 have hlen:=hv.length
 rw [Lc hl] at hj
 have e:(setAt c.toList o ju).toArray[0+j]?=if j<o then c.toList[j]? else if j<o+ju.length then ju[j-o]? else c.toList[j]?:=by
  rw [zero_add,List.getElem?_toArray,Lc (by simp;omega)]
 rw [e]
 by_cases Bu:j<o
 ·rw [if_pos Bu] at hj⊢
  obtain ⟨q1,y,q2,q3⟩:=h j x hj
  exact ⟨q1,y,by simpa using q2,q3⟩
 ·rw [if_neg Bu] at hj⊢
  by_cases h2:j<o+vs.length
  ·rw [if_pos h2] at hj
   rw [if_pos (by omega)]
   obtain ⟨y,q2,q3⟩:=hv.get hj
   exact ⟨h1 x (mem_of_getElem? hj),y,q2,q3⟩
  ·rw [if_neg h2] at hj
   rw [if_neg (by omega)]
   obtain ⟨q1,y,q2,q3⟩:=h j x hj
   exact ⟨q1,y,by simpa using q2,q3⟩
theorem ac7 (z:List Value) (n:Nat):∀(j:Nat),j<n*z.length→(List.replicate n z).flatten[j]?=z[j%z.length]?:=by
 induction n with
 | zero=>intro j hj;simp at hj
 | succ n ih=>
  intro j hj
  rw [List.replicate_succ,List.flatten_cons]
  by_cases h:j<z.length
  ·rw [getElem?_append_left h,Nat.mod_eq_of_lt h]
  ·have e:j%z.length=(j-z.length)%z.length:=by rw [Nat.mod_eq_sub_mod (by omega)]
   rw [List.getElem?_append_right (by omega),ih _ (by rw [add_mul] at hj;omega),e]
theorem Wi (z:List Value) (n:Nat):(iS z n).length=n*z.length:=by
 induction n with
 | zero=>simp [iS]
 | succ n ih=>simp only [iS,List.replicate_succ,List.flatten_cons,List.length_append] at ih⊢;rw [ih,add_mul];omega
theorem amU {z:List Value} {n:Nat} {p:Value→Prop} (h:∀x∈z,p x):∀x∈iS z n,p x:=by
 intro x hx
 simp only [iS,List.mem_flatten,List.mem_replicate] at hx
 obtain ⟨l,⟨_,rfl⟩,hm⟩:=hx
 exact h x hm
theorem afR (z:Array Value) (m j:Nat) (hj:j<m) (hz:0<z.size):(madeCells z m)[j]?=z[j%z.size]?:=by
 have aD:j%z.size<z.size:=Nat.mod_lt _ hz
 simp [madeCells,hj,aD]
theorem azc (z:Value) (n k:Nat) (hk:(de z).length=k):((Array.range (n*k)).map (z.cells[·%z.cells.size]!)).toList=iS (de z) n:=by
 have hs:z.cells.size=k:=by rw [←hk];simp [de]
 apply List.ext_getElem?
 intro j
 by_cases hj:j<n*k
 ·have hz:0<z.cells.size:=by
   rcases Nat.eq_zero_or_pos k with h | h
   ·subst h;simp at hj
   ·omega
  have:=afR z.cells (n*k) j hj hz
  simp only [madeCells] at this
  rw [getElem?_toList,this,iS,ac7 _ _ _ (by rw [hk];exact hj)]
  simp [de]
 ·rw [List.getElem?_eq_none (by simp;omega),List.getElem?_eq_none (by rw [Wi,hk];omega)]
section
variable {P : Program} {w : World} {ρ : aL} {h : ae}
def kf (P:Program) (ρ:aL) (h:ae) (w:World) (v:Value) (h':ae) (s:Result Next):Prop:=
 ∃nx w' av v',s=.ok nx w'∧(nx=.value v'∨(nx=.skip∧v'=undef))∧ax av v v'∧aY P av h' w'∧Tr ρ h w av h' w'
theorem aY.arr (H:aY P ρ h w) {i:Nat} {r:RI} {e:TypeId} {xs:List Value} (hi:ρ i=some r) (hx:h[i]?=some (.arr e xs)):
  r.elem=e∧r.sh=0∧∃c,w.heap[r.bz]?=some (.cells c e (0,0))∧c.size=r.size∧fY ρ c 0 xs:=by
 obtain ⟨o,ho,hr⟩:=H.obj i r hi
 rw [hx] at ho
 cases ho
 exact hr
theorem aEi (H:aY P ρ h w) {t:TypeId} {a a' v v':Value} {h':ae} (hk:iK P t=true) (hi:we (P.cellsOf t) h a v=some h') (ha:ax ρ a a') (hv:ax ρ v v'):
  ∃w',(Instr.storeAt t a' v').run P w=.ok () w'∧aY P ρ h' w'∧Tr ρ h w ρ h' w':=by
 unfold we at hi
 split at hi
 ·rename_i i o
  obtain ⟨r,hr,rfl⟩:=ha.FG
  split at hi
  ·rename_i e xs hx
   split at hi
   ·rename_i hc
    obtain ⟨oF,hl,hle⟩:=hc
    simp at hi;subst hi
    obtain ⟨h1,h2,c,h3,h4,h5⟩:=H.arr hr hx
    have B5:=hv.cells oF
    have lR:(de v').length=P.cellsOf t:=by rw [←B5.length];exact hl
    have bK:=run_storeCells_at P r.bz o e (de v') 0 c w h3 (by have:=h5.le;simp;omega) (B5.Fk (hv.Ik oF))
    have heq:(c.toList.take (o+0)++de v'++c.toList.drop (o+0+(de v').length)).toArray=(setAt c.toList o (de v')).toArray:=by simp [setAt]
    rw [heq] at bK
    have jm:cA h i:=.inl ⟨e,xs,hx⟩
    obtain ⟨q1,q2⟩:=H.set (o:=.arr e (setAt xs o (de v))) hr jm (mP.row h3 (setAt c.toList o (de v')).toArray)
     ⟨h1,h2,_,(mP.row h3 _).here,by simp [Vr (show o+(de v').length≤c.toList.length by have:=h5.le;simp;omega),h4],h5.put B5 (hv.Ik oF) (by omega)⟩
    refine ⟨_,?_,q1,q2⟩
    have kn:v'.cells.size=P.cellsOf t:=by rw [←lR];simp [de]
    have axw:(storeCells ⟨r.bz,r.sh+o,none⟩ v'.cells.toList).run P w=.ok () (w.setRow r.bz (setAt c.toList o (de v')).toArray):=by
     rw [h2,zero_add]
     exact bK
    simp [Instr.storeAt,Instr.sureAddr,storeVar,rr w hk,kn,axw]
   ·cases hi
  ·cases hi
 ·cases hi
theorem Fc (H:aY P ρ h w) {w':World} {e:TypeId} {c:Array Value} {xs:List Value} (nb:jU w (.cells c e) w') (hc:fY ρ c 0 xs):
  aY P (ρ.add h.length ⟨w.heap.size,0,e,P.cellsOf e,c.size⟩) (h++[.arr e xs]) w'∧Tr ρ h w (ρ.add h.length ⟨w.heap.size,0,e,P.cellsOf e,c.size⟩) (h++[.arr e xs]) w':=
 H.new nb rfl rfl rfl (fun _=>.inl rfl) ⟨rfl,rfl,c,nb.new,rfl,hc.mono (aL.wz H.none)⟩
theorem A9 (ρ:aL) (i:Nat) (r:RI):ρ.add i r i=some r:=by simp [aL.add]
theorem agm (ρ:aL) (h:ae) (r:RI) (hs:r.sh=0):ax (ρ.add h.length r) (Cn h) (.pointer (some ⟨r.bz,0,none⟩)):=by
 have:=ax.ptr (ρ:=ρ.add h.length r) (i:=h.length) (o:=0) (A9 _ _ _)
 rw [hs] at this
 exact this
theorem FP (ρ:aL) (i:Nat) (r:RI) (hs:r.sh=0) {n c':Nat} (hn:n≤c') (hc:c'≤maxLen) (hb:c'*r.aW≤r.size):ax (ρ.add i r) (sl r.elem i 0 n) (.slice (some ⟨r.bz,0,none⟩) n c'):=
 ax.slice (A9 _ _ _) (.inl (by omega)) hn hc (by omega)
theorem aDU (H:aY P ρ h w) {e:TypeId} {x x' v:Value} {h':ae} (hi:bm e h x=some (v,h')) (hx:ax ρ x x'):
  ∃w' av v',(Instr.box e x').run P w=.ok v' w'∧ax av v v'∧aY P av h' w'∧Tr ρ h w av h' w':=by
 unfold bm at hi
 split at hi
 ·rename_i oF
  simp at hi
  obtain ⟨rfl,rfl⟩:=hi
  have hc:fY ρ x'.cells 0 (de x):=fY.of (hx.cells oF) (hx.Ik oF)
  obtain ⟨q1,q2⟩:=Fc H (jU.alloc w (.cells x'.cells e)) hc
  exact ⟨_,_,_,by simp [Instr.box,newVar,newRow],agm _ _ _ rfl,q1,q2⟩
 ·cases hi
theorem aDQ (H:aY P ρ h w) {e:TypeId} {zs:List Value} (hz:zeroOf P e=some zs):
  ∃w' av v',(Instr.alloc e true (.tuple #[])).run P w=.ok v' w'∧ax av (Cn h) v'∧aY P av (h++[.arr e zs]) w'∧Tr ρ h w av (h++[.arr e zs]) w':=by
 obtain ⟨i,z,hi,qW,rfl,oF,fU,hlen⟩:=CZ hz
 have hc:fY ρ z.cells 0 (de z):=fY.of (bF.closed fun x hx=>(fU x hx).1) (fun x hx=>(fU x hx).2)
 obtain ⟨q1,q2⟩:=Fc H (jU.alloc w (.cells z.cells e)) hc
 exact ⟨_,_,_,by simp [Instr.alloc,AF w hi qW,newVar,newRow],agm _ _ _ rfl,q1,q2⟩
theorem PE {t:TypeId} {i:TypeInfo} (hi:P.info? t=some i):P.cellsOf t=i.size:=by simp [Program.cellsOf,hi]
theorem Y0 {t:TypeId} {i:TypeInfo} (hi:P.info? t=some i):P.bytesOf t=i.bytes:=by simp [Program.bytesOf,hi]
theorem aEd (H:aY P ρ h w) {t e:TypeId} {n:Nat} {zs:List Value} {ps:List (Nat×Nat×Value)} {qs:Array (Nat×Value)} {v:Value} {h':ae} (ht:P.underlying t=some (.slice e)) (hz:zeroOf P e=some zs)
  (hn:n*P.cellsOf e≤16777216) (bk:P.cellsOf e≠0) (hp:ve ρ (fun i=>some (i*P.cellsOf e,P.cellsOf e)) ps qs.toList) (hi:cW e n zs h ps=some (v,h')):
  ∃w' av v',(Instr.buildSlice t n qs).run P w=.ok v' w'∧ax av v v'∧aY P av h' w'∧Tr ρ h w av h' w':=by
 obtain ⟨i,z,oD,qW,rfl,oF,fU,hlen⟩:=CZ hz
 have hk:iK P e=true:=by simp [iK,oD]
 have vI:=PE oD
 simp only [cW,map_eq_some_iff,Prod.mk.injEq] at hi
 obtain ⟨cs,hf,rfl,rfl⟩:=hi
 obtain ⟨zero,tf,hzl⟩:∃zero:Array Value,(if n*P.cellsOf e=0 then (Pure.pure #[]:Sem (Array Value)) else do pure (←zeroValue e).cells).run P w=.ok zero w∧
   ((Array.range (n*P.cellsOf e)).map (zero[·%zero.size]!)).toList=iS (de z) n:=by
  by_cases h0:n*P.cellsOf e=0
  ·refine ⟨#[],by simp [h0],?_⟩
   have oE:n=0:=by
    rcases Nat.mul_eq_zero.1 h0 with h | h
    ·exact h
    ·exact absurd h bk
   subst oE
   simp [iS,Array.range_zero']
  ·exact ⟨z.cells,by simp [h0,AF w oD qW],by rw [vI];exact azc z n i.size hlen⟩
 have aws:bF ρ (iS (de z) n) (iS (de z) n):=bF.closed (amU fun x hx=>(fU x hx).1)
 obtain ⟨jy,BK,hr,h1,nK⟩:=Qe (ys:=(Array.range (n*P.cellsOf e)).map (zero[·%zero.size]!)) hp hf (by rw [hzl];exact aws) (amU fun x hx=>(fU x hx).2)
 obtain ⟨q1,q2⟩:=Fc H (jU.alloc w (.cells jy e)) (fY.of hr h1)
 have kn:jy.size=n*P.cellsOf e:=by
  have:=hr.length
  rw [nK,Wi,hlen,←vI] at this
  simpa using this.symm
 have EA:n≤maxLen:=by
  have h1:1≤P.cellsOf e:=by omega
  have:=Nat.mul_le_mul_left n h1
  unfold maxLen
  omega
 refine ⟨_,_,.slice (some ⟨w.heap.size,0,none⟩) n n,?_,FP ρ h.length ⟨w.heap.size,0,e,P.cellsOf e,jy.size⟩ rfl (le_refl _) EA (by simp [kn]),q1,q2⟩
 unfold Instr.buildSlice
 simp only [Sem.run_bind,run_underlying ht,Result.andThen_ok,rr w hk]
 have h24:¬(n*P.cellsOf e>2^24):=by rw [show (2^24:Nat)=16777216 from rfl];omega
 rw [if_neg h24]
 by_cases h0:n*P.cellsOf e=0
 ·rw [if_pos h0] at tf⊢
  simp only [Sem.run_pure,Result.ok.injEq,and_true] at tf
  subst tf
  simp only [Sem.run_bind,Sem.run_pure,Result.andThen_ok,BK]
  simp [newRow]
 ·rw [if_neg h0] at tf⊢
  simp only [Sem.run_bind,Sem.run_pure] at tf⊢
  rw [AF w oD qW] at tf⊢
  simp only [Result.andThen_ok,Result.ok.injEq,and_true] at tf⊢
  subst tf
  rw [BK]
  simp [newRow]
end
end
section
section
variable {P : Program} {w : World} {ρ : aL} {h : ae}
theorem aD9 (H:aY P ρ h w) {t e:TypeId} {zs:List Value} {l c l' c' v:Value} {h':ae} (ht:P.underlying t=some (.slice e)) (hz:zeroOf P e=some zs)
  (hi:nf e (P.bytesOf e) zs h l c=some (v,h')) (hl:ax ρ l l') (hc:ax ρ c c'):
  ∃w' av v',(Instr.makeSlice t l' c').run P w=.ok v' w'∧ax av v v'∧aY P av h' w'∧Tr ρ h w av h' w':=by
 obtain ⟨i,z,oD,qW,rfl,oF,fU,hlen⟩:=CZ hz
 unfold nf at hi
 split at hi
 ·rename_i k1 l k2 c
  rw [hl.mE,hc.mE]
  split at hi
  ·rename_i hb
   obtain ⟨h0,h1,h2,h3⟩:=hb
   simp at hi
   obtain ⟨rfl,rfl⟩:=hi
   rw [Y0 oD] at h2
   have gw:=run_make (P:=P) w t e i z ht oD qW k1 k2 l c h0 h1 h2 h3
   have zl:fY ρ (madeCells z.cells (c.toNat*i.size)) 0 (iS (de z) l.toNat):=by
    intro j x hj
    have pW:j<l.toNat*i.size:=by
     have:=(bD hj).1
     rwa [Wi,hlen] at this
    have RR:z.cells.size=i.size:=by rw [←hlen];simp [de]
    have iJ:0<z.cells.size:=by
     rcases Nat.eq_zero_or_pos i.size with q | q
     ·rw [q] at pW;simp at pW
     ·omega
    have Ex:l.toNat*i.size≤c.toNat*i.size:=Nat.mul_le_mul_right _ (by omega)
    rw [iS,ac7 _ _ _ (by rw [hlen];exact pW)] at hj
    have hx:x∈de z:=mem_of_getElem? hj
    refine ⟨(fU x hx).2,x,?_,mm.rel (fU x hx).1⟩
    rw [zero_add,afR _ _ _ (by omega) iJ]
    simpa [de] using hj
   obtain ⟨q1,q2⟩:=Fc H (jU.alloc w (.cells (madeCells z.cells (c.toNat*i.size)) e)) zl
   refine ⟨_,_,_,gw,?_,q1,q2⟩
   exact FP ρ h.length ⟨w.heap.size,0,e,P.cellsOf e,(madeCells z.cells (c.toNat*i.size)).size⟩ rfl (by omega) (by unfold maxLen;omega) (by simp [size_madeCells,PE oD])
  ·cases hi
 ·cases hi
theorem al1 {t e:TypeId} {i:TypeInfo} (ht:P.underlying t=some (.slice e)) (hi:P.info? e=some i) (type:TypeId) (b:Option Addr) (n c:Nat) (x:Value) (hn:n≤c)
  (hx:x=.slice none 0 0∨∃a c2,x=.slice (some a) 0 c2):(Builtin.append_ #[t,t] type #[.slice b n c,x]).run P w=.ok (.slice b n c) w:=by
 rcases hx with rfl | ⟨a,c2,rfl⟩
 ·cases b <;> simp [Builtin.append_,run_underlying ht,sizeOf,typeInfo,hi,Builtin.lenOf,hn,Builtin.firstCells,storeCells]
 ·cases b <;> simp [Builtin.append_,run_underlying ht,sizeOf,typeInfo,hi,Builtin.lenOf,hn,Builtin.firstCells,loadCells,loadCellsFrom,storeCells]
theorem PF {ρ:aL} {c:Array Value} {xs ys zs:List Value} (hx:∀(j:Nat) (x:Value),xs[j]?=some x→gA x=true∧∃y,c[j]?=some y∧ax ρ x y) (hz:bF ρ zs ys) (h1:∀x∈zs,gA x=true)
  (hc:∀(j:Nat) (y:Value),ys[j]?=some y→c[xs.length+j]?=some y):fY ρ c 0 (xs++zs):=by
 intro j x hj
 by_cases aD:j<xs.length
 ·rw [getElem?_append_left aD] at hj
  simpa using hx j x hj
 ·rw [List.getElem?_append_right (by omega)] at hj
  obtain ⟨y,hy,hr⟩:=hz.get hj
  refine ⟨h1 x (mem_of_getElem? hj),y,?_,hr⟩
  have:=hc _ y hy
  rw [←this]
  congr 1
  omega
theorem aDR (H:aY P ρ h w) {t e:TypeId} {zs:List Value} {type:TypeId} {s x s' x' v:Value} {h':ae} (ht:P.underlying t=some (.slice e)) (hz:zeroOf P e=some zs)
  (hi:dM e (P.cellsOf e) (P.bytesOf e) h s x=some (v,h')) (hs:ax ρ s s') (hx:ax ρ x x'):
  ∃w' av v',(Builtin.append_ #[t,t] type #[s',x']).run P w=.ok v' w'∧ax av v v'∧aY P av h' w'∧Tr ρ h w av h' w':=by
 obtain ⟨i,z,oD,qW,rfl,oF,fU,hlen⟩:=CZ hz
 have vI:=PE oD
 have Ei:=Y0 oD
 have RR:z.cells.size=i.size:=by rw [←hlen];simp [de]
 unfold dM at hi
 split at hi
 ·rename_i news m hn hm
  have hxx:=Li H hn hx
  have tf:m=0→(x'=.slice none 0 0∨∃a c2,x'=.slice (some a) 0 c2):=by
   intro qJ
   rcases hxx with ⟨e1,_⟩ | ⟨b,o,n2,c2,e1,e2,_⟩
   ·exact .inl e1
   ·rw [hm] at e2;cases e2;subst qJ;exact .inr ⟨_,_,e1⟩
  have aeG:0<m→∃b o c2,x'=.slice (some ⟨b,o,none⟩) m c2∧news.length=m*i.size∧(∀v∈news,gA v=true)∧
    ∃ys,bF ρ news ys∧ys.length=m*i.size∧∀j v,ys[j]?=some v→w.cell? ((⟨b,o,none⟩:Addr).add j)=some v:=by
   intro qJ
   rcases hxx with ⟨e1,e2⟩ | ⟨b,o,n2,c2,e1,e2,e3,e4,ys,e5,e6⟩
   ·subst e1
    cases hx
    ·simp [qh] at hm
     omega
    ·simp [qh] at hm
   ·rw [hm] at e2;cases e2
    refine ⟨b,o,c2,e1,by rw [e3,vI],e4,ys,e5,by rw [←e5.length,e3,vI],?_⟩
    intro j v hj
    rw [Addr.add_lit]
    exact e6 j v hj
  split at hi
  ·cases hs
   split at hi
   ·rename_i qJ
    simp at hi
    obtain ⟨rfl,rfl⟩:=hi
    exact ⟨w,ρ,_,al1 ht oD type none 0 0 x' (le_refl _) (tf qJ),.rh,H,Tr.refl H⟩
   ·rename_i qJ
    split at hi
    ·rename_i hb
     obtain ⟨mU,Eh⟩:=hb
     simp at hi
     obtain ⟨rfl,rfl⟩:=hi
     obtain ⟨b,o,c2,rfl,f1,f2,ys,f3,f4,f5⟩:=aeG (by omega)
     have gw:=run_append_nil (P:=P) w t type e i z ht oD qW ⟨b,o,none⟩ m c2 ys f4 f5 (by omega) (by unfold maxLen at Eh;omega) (by rw [←Ei];omega)
     have cE:=grownCap_ge w m 0 e
     have zl:fY ρ (ys.toArray++Builtin.zeroCells z.cells (grownCap w m 0 e-m)) 0 news:=by
      have:=PF (ρ:=ρ) (c:=ys.toArray++Builtin.zeroCells z.cells (grownCap w m 0 e-m)) (xs:=[]) (ys:=ys) (zs:=news) (by simp) f3 f2 (by
       intro j y hj
       have aD:=(bD hj).1
       rw [Array.getElem?_append_left (by simpa using aD)]
       simpa using hj)
      simpa using this
     obtain ⟨q1,q2⟩:=Fc H (jU.drew w (.cells (ys.toArray++Builtin.zeroCells z.cells (grownCap w m 0 e-m)) e)) zl
     refine ⟨_,_,_,gw,?_,q1,q2⟩
     refine FP ρ h.length ⟨w.heap.size,0,e,P.cellsOf e,(ys.toArray++Builtin.zeroCells z.cells (grownCap w m 0 e-m)).size⟩ rfl cE (grownCap_le_maxLen w m 0 e Eh) ?_
     simp only [Array.size_append,List.size_toArray,size_zeroCells,f4,RR,vI]
     rw [←add_mul]
     exact Nat.mul_le_mul_right _ (by omega)
    ·cases hi
  ·rename_i ii e' n cc
   split at hi
   ·rename_i e'' xs p6
    split at hi
    ·rename_i hb
     obtain ⟨rfl,rfl,hb3,hb4,hb5⟩:=hb
     have RA:=hs
     cases hs with
     | slice hr ho hnc hcm BA=>
      rename_i o' c' r
      obtain ⟨g1,g2,c,g3,g4,g5⟩:=H.arr hr p6
      obtain rfl:o'=0:=by
       rcases ho with ho | ⟨_,q,_⟩
       ·omega
       ·omega
      have jj:=H.aW _ _ hr
      split at hi
      ·rename_i qJ
       simp at hi
       obtain ⟨rfl,rfl⟩:=hi
       exact ⟨w,ρ,_,al1 ht oD type _ n c' x' hnc (tf qJ),RA,H,Tr.refl H⟩
      ·rename_i qJ
       simp at hi
       obtain ⟨rfl,rfl⟩:=hi
       obtain ⟨b,o,c2,rfl,f1,f2,ys,f3,f4,f5⟩:=aeG (by omega)
       rw [vI] at hb3
       have BJ:r.aW=i.size:=by rw [jj,vI]
       have jm:cA h ii:=.inl ⟨_,xs,p6⟩
       by_cases Rx:n+m≤c'
       ·have I8:n*i.size+ys.length≤c.size:=by
         rw [f4,g4,←add_mul]
         have:=Nat.mul_le_mul_right i.size Rx
         rw [BJ] at BA
         omega
        have gw:=run_append_room (P:=P) w t type r.elem i ht oD r.bz n c' c g3 ⟨b,o,none⟩ m c2 ys f4 f5 (f3.Fk f2) Rx I8
        have pR:(c.toList.take (n*i.size)++ys++c.toList.drop (n*i.size+ys.length)).toArray=(setAt c.toList (n*i.size) ys).toArray:=rfl
        rw [pR] at gw
        have kn:(setAt c.toList (n*i.size) ys).toArray.size=c.size:=by simp [Vr (show n*i.size+ys.length≤c.toList.length by simpa using I8)]
        have zl:fY ρ (setAt c.toList (n*i.size) ys).toArray 0 (xs++news):=by
         refine PF (ys:=ys) ?_ f3 f2 ?_
         ·intro j x hj
          have aD:=(bD hj).1
          obtain ⟨k1,y,k2,k3⟩:=g5 j x hj
          refine ⟨k1,y,?_,k3⟩
          rw [List.getElem?_toArray,Lc (by simpa using I8),if_pos (by omega)]
          simpa using k2
         ·intro j y hj
          have aD:=(bD hj).1
          rw [List.getElem?_toArray,Lc (by simpa using I8),if_neg (by omega),if_pos (by omega)]
          rw [←hj]
          congr 1
          omega
        have sb:=mP.row g3 (setAt c.toList (n*i.size) ys).toArray
        obtain ⟨q1,q2⟩:=H.move (o:=.arr r.elem (xs++news)) hr jm sb ⟨rfl,g2,_,sb.here,by rw [kn,g4],zl.mono (aL.wz H.none)⟩
        refine ⟨_,_,_,gw,?_,q1,q2⟩
        exact FP ρ h.length r g2 Rx hcm (by omega)
       ·obtain ⟨S6,o1,o2,o3,o4⟩:=g5.VY (o:=0) (n:=n*i.size) (by omega)
        have axA:(xs.drop 0).take (n*i.size)=xs:=by rw [List.drop_zero];exact List.take_of_length_le (by omega)
        rw [axA] at o1 o3
        have hold:∀j v,S6[j]?=some v→w.cell? ((⟨r.bz,0,none⟩:Addr).add j)=some v:=by
         intro j v hj
         rw [Addr.add_lit,Ij g3]
         simpa using o4 j v hj
        have adU:=growslice_fits (need:=n+m) (old:=c') (bytes:=P.bytesOf r.elem) (by omega) hb4
        rw [Ei] at adU
        have gw:=run_append_grow (P:=P) w t type r.elem i z ht oD qW ⟨r.bz,0,none⟩ n c' S6 o2 hold ⟨b,o,none⟩ m c2 ys f4 f5 (by omega) (by unfold maxLen at hb5;omega) adU
        have cE:=grownCap_ge w (n+m) c' r.elem
        generalize zk:S6.toArray++ys.toArray++Builtin.zeroCells z.cells (grownCap w (n+m) c' r.elem-(n+m))=cc at gw
        have awr:cc.size=n*i.size+m*i.size+(grownCap w (n+m) c' r.elem-(n+m))*i.size:=by
         rw [←zk];simp only [Array.size_append,List.size_toArray,size_zeroCells,o2,f4,RR]
        have zl:fY ρ cc 0 (xs++news):=by
         refine PF (ys:=ys) ?_ f3 f2 ?_
         ·intro j x hj
          have aD:=(bD hj).1
          obtain ⟨y,k2,k3⟩:=o1.get hj
          refine ⟨o3 x (mem_of_getElem? hj),y,?_,k3⟩
          rw [←zk,Array.append_assoc,Array.getElem?_append_left (by simp;omega)]
          simpa using k2
         ·intro j y hj
          have aD:=(bD hj).1
          rw [←zk,Array.append_assoc,Array.getElem?_append_right (by simp;omega),Array.getElem?_append_left (by simp;omega)]
          rw [←hj,List.getElem?_toArray]
          congr 1
          simp
          omega
        have nb:=jU.drew w (.cells cc r.elem)
        obtain ⟨q1,q2⟩:=H.new (h₀:=h.set ii .dead) (o:=.arr r.elem (xs++news)) (r:=⟨w.heap.size,0,r.elem,P.cellsOf r.elem,cc.size⟩) nb rfl rfl (by simp) (by
          intro j
          by_cases hj:j=ii
          ·subst hj;right;rw [List.getElem?_set_self (H.lt hr)]
          ·left;rw [getElem?_set_ne (Ne.symm hj)]) ⟨rfl,rfl,cc,nb.new,rfl,zl.mono (aL.wz H.none)⟩
        refine ⟨_,_,_,gw,?_,q1,q2⟩
        refine FP ρ h.length ⟨w.heap.size,0,r.elem,P.cellsOf r.elem,cc.size⟩ rfl cE (grownCap_le_maxLen w (n+m) c' r.elem hb5) ?_
        simp only [awr,vI]
        rw [←add_mul,←add_mul]
        exact Nat.mul_le_mul_right _ (by omega)
    ·cases hi
   ·cases hi
  ·cases hi
 ·cases hi
theorem aDX (H:aY P ρ h w) {t e tt:TypeId} {type:TypeId} {d x d' x' v:Value} {h':ae} (ht:P.underlying t=some (.slice e)) (hz:(P.info? e).map (·.size)=some 1) (hi:RX h d x=some (v,h')) (hd:ax ρ d d') (hx:ax ρ x x'):
  ∃w',(Builtin.copy_ #[t,tt] type #[d',x']).run P w=.ok v w'∧ax ρ v v∧aY P ρ h' w'∧Tr ρ h w ρ h' w':=by
 unfold RX at hi
 split at hi
 ·rename_i n m cs hn hm pR
  have pe:∃p c,d'=.slice p n c:=by
   unfold qh at hn
   split at hn
   ·cases hd;cases hn;exact ⟨_,_,rfl⟩
   ·cases hd;cases hn;exact ⟨_,_,rfl⟩
   ·cases hn
  have hZ:∃p c,x'=.slice p m c:=by
   unfold qh at hm
   split at hm
   ·cases hx;cases hm;exact ⟨_,_,rfl⟩
   ·cases hx;cases hm;exact ⟨_,_,rfl⟩
   ·cases hm
  split at hi
  ·rename_i h0
   simp at hi
   obtain ⟨rfl,rfl⟩:=hi
   obtain ⟨p,c,rfl⟩:=pe
   obtain ⟨q,c',rfl⟩:=hZ
   exact ⟨w,run_copy_none (P:=P) w t tt type e p q n c m c' ht hz h0,.int _ _,H,.refl H⟩
  ·rename_i h0
   split at hi
   ·rename_i i o e' n' c0
    split at hi
    ·rename_i e2 xs hg
     split at hi
     ·rename_i hle
      simp only [Option.some.injEq,Prod.mk.injEq] at hi
      obtain ⟨rfl,rfl⟩:=hi
      cases hd with
      | slice hr ho hn2 hc hb=>
       rename_i o' c' r
       simp [qh] at hn
       subst hn
       have iJ:0<n':=by
        have:Nat.min m n'≤n':=Nat.min_le_right _ _
        omega
       have dL:o'=r.sh+o:=by
        rcases ho with ho | ⟨q1,q2,q3⟩
        ·exact ho
        ·omega
       subst dL
       obtain ⟨a1,a2,c,a3,a4,a5⟩:=H.arr hr hg
       rcases Li H pR hx with ⟨rfl,rfl⟩ | ⟨b,ob,nn,cc,rfl,hl,hlen,sT,ys,zU,awW⟩
       ·obtain ⟨q,c',hq⟩:=hZ
        cases hq
        exact absurd (Nat.zero_min n') h0
       ·rw [hm] at hl
        cases hl
        rw [Nat.mul_one] at hlen
        have axC:=zU.length
        have aD:(ys.take (Nat.min m n')).length=Nat.min m n':=by
         rw [List.length_take,←axC,hlen];exact Nat.min_eq_left (Nat.min_le_left _ _)
        have hct:(cs.take (Nat.min m n')).length=Nat.min m n':=by
         rw [List.length_take,hlen];exact Nat.min_eq_left (Nat.min_le_left _ _)
        have zR:bF ρ (cs.take (Nat.min m n')) (ys.take (Nat.min m n')):=zU.take _
        have h1c:∀v∈cs.take (Nat.min m n'),gA v=true:=fun v hv=>sT v (List.mem_of_mem_take hv)
        have gw:=run_copy_row (P:=P) w t tt type e r.bz (r.sh+o) n' c' ⟨b,ob,none⟩ m cc c e2 (ys.take (Nat.min m n')) ht hz a3 aD
         (fun j v hj=>by
          rw [List.getElem?_take] at hj
          split at hj
          ·rw [Addr.add_lit];exact awW j v hj
          ·cases hj) (by have:=a5.le;rw [aD,a2];omega) (zR.Fk h1c)
        rw [aD,a2,zero_add] at gw
        have heq:(c.toList.take o++ys.take (Nat.min m n')++c.toList.drop (o+Nat.min m n')).toArray=(setAt c.toList o (ys.take (Nat.min m n'))).toArray:=by simp only [setAt,aD]
        rw [heq] at gw
        have jm:cA h i:=.inl ⟨e2,xs,hg⟩
        obtain ⟨q1,q2⟩:=H.set (o:=.arr e2 (setAt xs o (cs.take (Nat.min m n')))) hr jm (mP.row a3 (setAt c.toList o (ys.take (Nat.min m n'))).toArray)
         ⟨a1,a2,_,(mP.row a3 _).here,by simp [Vr (show o+(ys.take (Nat.min m n')).length≤c.toList.length by have:=a5.le;simp only [Array.length_toList];omega),a4],a5.put zR h1c (by omega)⟩
        refine ⟨_,?_,.int _ _,q1,q2⟩
        rw [a2,zero_add];exact gw
     ·cases hi
    ·cases hi
   ·cases hi
 ·cases hi
end
end
section
theorem mP.obj {w:World} {g:Nat} {x:Obj} (hg:w.heap[g]?=some x) (b:Obj):mP w g b { w with heap:=w.heap.setIfInBounds g b } where
 here:=by
  have:=(Array.getElem?_eq_some_iff.1 hg).1
  simp [this]
 other:=by intro j hj;simp [Ne.symm hj]
 size:=by simp
 os:=rfl
 tape:=rfl
 output:=rfl
theorem avW {ρ:aL} {es:List (ByteArray×Value)} {aK:List MapEntry} (h:mN ρ es aK) (k:ByteArray) {v v':Value} (hv:ax ρ v v') (born:Nat):∀i:Nat,
  (Instr.findNow .string (.string k) aK i=some none∧mN ρ (tD k v es) (aK++[{ key:=.string k,val:=v',born }]))∨
  (∃u j,Instr.findNow .string (.string k) aK i=some (some (i+j,u))∧(∃en,aK[j]?=some en∧en.key=.string k)∧mN ρ (tD k v es) (aK.modify j fun e=>{ e with key:=.string k,val:=v' })):=by
 induction h with
 | nil=>intro i;exact .inl ⟨rfl,.cons rfl hv .nil⟩
 | cons h1 h2 h3 ih=>
  rename_i k0 v0 en es aK
  intro i
  by_cases hk:k=k0
  ·subst hk
   have hb:(k==k)=true:=(MapKept.bytes_beq k k).2 rfl
   refine .inr ⟨en.val,0,?_,⟨en,rfl,h1⟩,?_⟩
   ·simp [Instr.findNow,h1,Instr.sameNow,hb]
   ·simp only [tD,if_true,List.modify_zero_cons]
    exact .cons rfl hv h3
  ·have hb:(k==k0)=false:=by
    rw [Bool.eq_false_iff]
    exact fun e=>hk ((MapKept.bytes_beq k k0).1 e)
   rcases ih (i+1) with ⟨e1,e2⟩ | ⟨u,j,e1,e2,e3⟩
   ·refine .inl ⟨?_,?_⟩
    ·simp [Instr.findNow,h1,Instr.sameNow,hb,e1]
    ·simp only [tD,if_neg hk,List.cons_append]
     exact .cons h1 h2 e2
   ·refine .inr ⟨u,j+1,?_,by simpa using e2,?_⟩
    ·simp [Instr.findNow,h1,Instr.sameNow,hb,e1];omega
    ·simp only [tD,if_neg hk,List.modify_succ_cons]
     exact .cons h1 h2 e3
theorem avX {kd:IntKind} {ρ:aL} {es:List (Int×Value)} {aK:List MapEntry} (h:mO kd ρ es aK) (k:Int) {v v':Value} (hv:ax ρ v v') (born:Nat):∀i:Nat,
  (Instr.findNow (.int kd) (.int kd k) aK i=some none∧mO kd ρ (tC k v es) (aK++[{ key:=.int kd k,val:=v',born }]))∨
  (∃u j,Instr.findNow (.int kd) (.int kd k) aK i=some (some (i+j,u))∧(∃en,aK[j]?=some en∧en.key=.int kd k)∧mO kd ρ (tC k v es) (aK.modify j fun e=>{ e with key:=.int kd k,val:=v' })):=by
 induction h with
 | nil=>intro i;exact .inl ⟨rfl,.cons rfl hv .nil⟩
 | cons h1 h2 h3 ih=>
  rename_i k0 v0 en es aK
  intro i
  by_cases hk:k=k0
  ·subst hk
   have hb:(k==k)=true:=beq_self_eq_true k
   refine .inr ⟨en.val,0,?_,⟨en,rfl,h1⟩,?_⟩
   ·simp [Instr.findNow,h1,Instr.sameNow]
   ·simp only [tC,if_true,List.modify_zero_cons]
    exact .cons rfl hv h3
  ·have hb:(k==k0)=false:=by
    exact beq_false_of_ne hk
   rcases ih (i+1) with ⟨e1,e2⟩ | ⟨u,j,e1,e2,e3⟩
   ·refine .inl ⟨?_,?_⟩
    ·simp [Instr.findNow,h1,Instr.sameNow,hb,e1]
    ·simp only [tC,if_neg hk,List.cons_append]
     exact .cons h1 h2 e2
   ·refine .inr ⟨u,j+1,?_,by simpa using e2,?_⟩
    ·simp [Instr.findNow,h1,Instr.sameNow,hb,e1];omega
    ·simp only [tC,if_neg hk,List.modify_succ_cons]
     exact .cons h1 h2 e3
section
variable {P : Program} {w : World} {ρ : aL} {h : ae}
theorem aEa (H:aY P ρ h w) (t:TypeId):∃w' av v',(Instr.makeMap t none).run P w=.ok v' w'∧ax av (.map (some h.length)) v'∧aY P av (h++[.smap []]) w'∧Tr ρ h w av (h++[.smap []]) w':=by
 have nb:=jU.alloc w (.map #[] 0)
 obtain ⟨q1,q2⟩:=H.new (h₀:=h) (o:=.smap []) (r:=⟨w.heap.size,0,0,P.cellsOf 0,0⟩) nb rfl rfl rfl (fun _=>.inl rfl) ⟨#[],0,nb.new,rfl,fun j k v hj=>by simp at hj⟩
 refine ⟨_,_,.map (some w.heap.size),?_,ax.map (A9 _ _ _),q1,q2⟩
 simp [Instr.makeMap]
theorem aEc (H:aY P ρ h w) (t:TypeId) (kd:IntKind):∃w' av v',(Instr.makeMap t none).run P w=.ok v' w'∧ax av (.map (some h.length)) v'∧aY P av (h++[.kQ kd []]) w'∧Tr ρ h w av (h++[.kQ kd []]) w':=by
 have nb:=jU.alloc w (.map #[] 0)
 obtain ⟨q1,q2⟩:=H.new (h₀:=h) (o:=.kQ kd []) (r:=⟨w.heap.size,0,0,P.cellsOf 0,0⟩) nb rfl rfl rfl (fun _=>.inl rfl) ⟨#[],0,nb.new,rfl,fun j k v hj=>by simp at hj⟩
 refine ⟨_,_,.map (some w.heap.size),?_,ax.map (A9 _ _ _),q1,q2⟩
 simp [Instr.makeMap]
theorem ya {g:Nat} {aK:Array MapEntry} {clock:Nat} (hg:w.heap[g]?=some (.map aK clock)) (o:Obj):(setObj g o).run P w=.ok () { w with heap:=w.heap.setIfInBounds g o }:=by
 simp [setObj,Sem.run,hg]
theorem al6 (H:aY P ρ h w) {t kt et:TypeId} {m m' k k' v v':Value} {h':ae} (ht:P.underlying t=some (.map kt et)) (hk:isString P kt=true)
  (hi:R4 h m k v=some h') (hm:ax ρ m m') (lh:ax ρ k k') (hv:ax ρ v v'):∃w',(Instr.mapUpdate t m' k' v').run P w=.ok () w'∧aY P ρ h' w'∧Tr ρ h w ρ h' w':=by
 unfold R4 at hi
 split at hi
 ·rename_i i key
  rw [lh.wJ]
  cases hm with
  | map hr=>
   rename_i r
   split at hi
   ·rename_i es he
    simp at hi;subst hi
    obtain ⟨aK,clock,hb,zz⟩:=H.aK hr he
    have mC:=afm hk
    have jm:cA h i:=.inr (.inl ⟨es,he⟩)
    have mk:∀(qC:Array MapEntry) (sL:Nat),mN ρ (tD key v es) qC.toList→aY P ρ (h.set i (.smap (tD key v es))) { w with heap:=w.heap.setIfInBounds r.bz (.map qC sL) }∧
      Tr ρ h w ρ (h.set i (.smap (tD key v es))) { w with heap:=w.heap.setIfInBounds r.bz (.map qC sL) }:=by
     intro qC sL fK
     have sb:=mP.obj hb (.map qC sL)
     have:=fK.to
     exact H.set (o:=.smap (tD key v es)) hr jm sb ⟨qC,sL,sb.here,by simpa using this.1,by simpa using this.2⟩
    rcases avW zz key hv clock 0 with ⟨e1,e2⟩ | ⟨u,j,e1,⟨en,e2,yP⟩,e3⟩
    ·obtain ⟨q1,q2⟩:=mk (aK.push { key:=.string key,val:=v',born:=clock }) (clock+1) (by simpa using e2)
     refine ⟨_,?_,q1,q2⟩
     simp [Instr.mapUpdate,run_underlying ht,run_getObj_map hb,run_checkKey _ mC,run_findKey mC key _ e1,ya hb]
    ·obtain ⟨q1,q2⟩:=mk (aK.modify j fun e=>{ e with key:=.string key,val:=v' }) clock (by simpa using e3)
     refine ⟨_,?_,q1,q2⟩
     have bT:aK[j]?=some en:=by simpa using e2
     have zP:Instr.sameBits 10000 (.string key) (.string key)=true:=by
      simp [Instr.sameBits,(MapKept.bytes_beq key key).2 rfl]
     have EG:(Instr.keyThatStays (((aK[j]?).map (·.key)).getD (.string key)) (.string key)).run P w=.ok (.string key) w:=by
      rw [bT]
      simp [Instr.keyThatStays,yP,zP]
     simp only [Instr.mapUpdate,Sem.run_bind,run_underlying ht,Result.andThen_ok,run_getObj_map hb,run_checkKey _ mC,run_findKey mC key _ e1]
     simp only [zero_add,EG,Result.andThen_ok,ya hb]
   ·cases hi
 ·cases hi
theorem al8 (H:aY P ρ h w) {t kt et:TypeId} {kd:IntKind} {m m' k k' v v':Value} {h':ae} (ht:P.underlying t=some (.map kt et)) (hk:Af P kt=some kd)
  (hi:R5 kd h m k v=some h') (hm:ax ρ m m') (lh:ax ρ k k') (hv:ax ρ v v'):∃w',(Instr.mapUpdate t m' k' v').run P w=.ok () w'∧aY P ρ h' w'∧Tr ρ h w ρ h' w':=by
 unfold R5 at hi
 split at hi
 ·rename_i i Ce key
  rw [lh.mE]
  cases hm with
  | map hr=>
   rename_i r
   split at hi
   ·rename_i nN es he
    split at hi
    ·rename_i mB
     obtain ⟨rfl,rfl⟩:=mB
     simp at hi;subst hi
     obtain ⟨aK,clock,hb,zz⟩:=H.acS hr he
     have mC:=afj hk
     have jm:cA h i:=.inr (.inr (.inr (.inl ⟨_,es,he⟩)))
     have mk:∀(qC:Array MapEntry) (sL:Nat),mO nN ρ (tC key v es) qC.toList→aY P ρ (h.set i (.kQ nN (tC key v es))) { w with heap:=w.heap.setIfInBounds r.bz (.map qC sL) }∧
       Tr ρ h w ρ (h.set i (.kQ nN (tC key v es))) { w with heap:=w.heap.setIfInBounds r.bz (.map qC sL) }:=by
      intro qC sL fK
      have sb:=mP.obj hb (.map qC sL)
      have:=fK.to
      exact H.set (o:=.kQ nN (tC key v es)) hr jm sb ⟨qC,sL,sb.here,by simpa using this.1,by simpa using this.2⟩
     rcases avX zz key hv clock 0 with ⟨e1,e2⟩ | ⟨u,j,e1,⟨en,e2,yP⟩,e3⟩
     ·obtain ⟨q1,q2⟩:=mk (aK.push { key:=.int nN key,val:=v',born:=clock }) (clock+1) (by simpa using e2)
      refine ⟨_,?_,q1,q2⟩
      simp [Instr.mapUpdate,run_underlying ht,run_getObj_map hb,K7 _ mC,K8 mC key _ e1,ya hb]
     ·obtain ⟨q1,q2⟩:=mk (aK.modify j fun e=>{ e with key:=.int nN key,val:=v' }) clock (by simpa using e3)
      refine ⟨_,?_,q1,q2⟩
      have bT:aK[j]?=some en:=by simpa using e2
      have zP:∀kd,Instr.sameBits 10000 (.int kd key) (.int kd key)=true:=by
       intro kd
       simp [Instr.sameBits]
      have EG:(Instr.keyThatStays (((aK[j]?).map (·.key)).getD (.int nN key)) (.int nN key)).run P w=.ok (.int nN key) w:=by
       rw [bT]
       simp [Instr.keyThatStays,yP,zP]
      simp only [Instr.mapUpdate,Sem.run_bind,run_underlying ht,Result.andThen_ok,run_getObj_map hb,K7 _ mC,K8 mC key _ e1]
      simp only [zero_add,EG,Result.andThen_ok,ya hb]
    ·cases hi
   ·cases hi
 ·cases hi
theorem aEb (H:aY P ρ h w) (t:TypeId) (g:fR):∃w' av v',(Instr.makeMap t none).run P w=.ok v' w'∧ax av (.map (some h.length)) v'∧aY P av (h++[.di g 0 []]) w'∧Tr ρ h w av (h++[.di g 0 []]) w':=by
 have nb:=jU.alloc w (.map #[] 0)
 obtain ⟨q1,q2⟩:=H.new (h₀:=h) (o:=.di g 0 []) (r:=⟨w.heap.size,0,0,P.cellsOf 0,0⟩) nb rfl rfl rfl (fun _=>.inl rfl) ⟨by simp,#[],nb.new,rfl,fun j b k v hj=>by simp at hj⟩
 refine ⟨_,_,.map (some w.heap.size),?_,ax.map (A9 _ _ _),q1,q2⟩
 simp [Instr.makeMap]
theorem sH.set {g:fR} {c:Nat} {es:List (Nat×Value×Value)} {aK:Array MapEntry} (E:sH ρ g es aK) {k v v':Value} (hk:fc g k=true) (hv:ax ρ v v'):
  (ma k es=none→sH ρ g (es++[(c,k,v)]) (aK.push { key:=k,val:=v',born:=c }))∧∀j b u,ma k es=some j→es[j]?=some (b,k,u)→sH ρ g (es.modify j fun e=>(e.1,k,v)) (aK.modify j fun e=>{ e with key:=k,val:=v' }):=by
 constructor
 ·intro hp
  have dC:∀e∈es,e.2.1≠k:=by
   rcases KM hk es with ⟨_,h2⟩ | ⟨j,e,h1,_⟩
   ·exact h2
   ·rw [hp] at h1;cases h1
  refine ⟨by simp [E.size],?_,?_⟩
  ·rw [List.map_append,List.nodup_append]
   refine ⟨E.nodup,by simp,?_⟩
   intro a ha b hb
   obtain ⟨e,he,rfl⟩:=List.mem_map.1 ha
   simp at hb
   subst hb
   exact dC e he
  ·intro j b k1 v1 hj
   by_cases aD:j<es.length
   ·rw [getElem?_append_left aD] at hj
    obtain ⟨g1,en,g2,g3⟩:=E.get j b k1 v1 hj
    exact ⟨g1,en,by rw [Array.getElem?_push_lt (by rw [E.size];exact aD)];rw [getElem?_eq_getElem (by rw [E.size];exact aD)] at g2;exact g2,g3⟩
   ·rw [List.getElem?_append_right (by omega)] at hj
    have nJ:j=es.length:=by
     have:=(bD hj).1
     simp at this
     omega
    subst nJ
    simp at hj
    obtain ⟨rfl,rfl,rfl⟩:=hj
    exact ⟨hk,{ key:=k,val:=v',born:=c },by rw [←E.size];simp,rfl,rfl,hv⟩
 ·intro j b u hp hj
  have awT:((es.modify j fun e=>(e.1,k,v)).map fun e=>e.2.1)=es.map fun e=>e.2.1:=by
   apply List.ext_getElem?
   intro i
   simp only [List.getElem?_map,List.getElem?_modify]
   by_cases fB:j=i
   ·subst fB;simp [hj]
   ·simp [fB]
  refine ⟨by simp [E.size],by rw [awT];exact E.nodup,?_⟩
  intro i b1 k1 v1 hi
  rw [List.getElem?_modify] at hi
  by_cases fB:j=i
  ·subst fB
   simp [hj] at hi
   obtain ⟨rfl,rfl,rfl⟩:=hi
   obtain ⟨g1,en,g2,g3,g4,_⟩:=E.get j b k u hj
   refine ⟨hk,{ en with key:=k,val:=v' },?_,rfl,g4,hv⟩
   rw [Array.getElem?_modify]
   simp [g2]
  ·simp [fB] at hi
   obtain ⟨g1,en,g2,g3⟩:=E.get i b1 k1 v1 hi
   refine ⟨g1,en,?_,g3⟩
   rw [Array.getElem?_modify]
   simp [fB,g2]
theorem al7 (H:aY P ρ h w) {t:TypeId} {g:fR} {m m' k k' v v':Value} {h':ae} (hg:rM P t=some g)
  (hi:B6 g h m k v=some h') (hm:ax ρ m m') (lh:ax ρ k k') (hv:ax ρ v v'):∃w',(Instr.mapUpdate t m' k' v').run P w=.ok () w'∧aY P ρ h' w'∧Tr ρ h w ρ h' w':=by
 obtain ⟨kt,et,ht,L⟩:=IU hg
 unfold B6 at hi
 split at hi
 ·rename_i i
  cases hm with
  | map hr=>
   rename_i r
   split at hi
   ·rename_i g' c es he
    split at hi
    ·rename_i mB
     obtain ⟨rfl,hk,_⟩:=mB
     simp at hi;subst hi
     rw [lh.key hk]
     obtain ⟨aK,hb,E⟩:=H.Bm hr he
     have jm:cA h i:=.inr (.inr (.inr (.inr (.inl ⟨_,_,es,he⟩))))
     obtain ⟨S1,S2⟩:=E.set (c:=c) hk hv
     rcases Vc (w:=w) L E hk with ⟨⟨e1,_⟩,e2⟩ | ⟨j,b,u,en,e1,e2,e3,e4,e5,e6,e7⟩
     ·have E':=S1 e1
      have sb:=mP.obj hb (.map (aK.push { key:=k,val:=v',born:=c }) (c+1))
      have kO:mb c k v es=es++[(c,k,v)]:=by simp [mb,e1]
      have QO:oY c k es=c+1:=by simp [oY,e1]
      obtain ⟨q1,q2⟩:=H.set (o:=.di g' (oY c k es) (mb c k v es)) hr jm sb (by rw [kO,QO];exact ⟨E'.nodup,_,sb.here,E'.size,E'.get⟩)
      refine ⟨_,?_,q1,q2⟩
      simp [Instr.mapUpdate,run_underlying ht,run_getObj_map hb,L.check w _ k hk,e2,ya hb]
     ·have E':=S2 j b u e1 e2
      have sb:=mP.obj hb (.map (aK.modify j fun e=>{ e with key:=k,val:=v' }) c)
      have kO:mb c k v es=es.modify j fun e=>(e.1,k,v):=by simp [mb,e1]
      have QO:oY c k es=c:=by simp [oY,e1]
      obtain ⟨q1,q2⟩:=H.set (o:=.di g' (oY c k es) (mb c k v es)) hr jm sb (by rw [kO,QO];exact ⟨E'.nodup,_,sb.here,E'.size,E'.get⟩)
      refine ⟨_,?_,q1,q2⟩
      have EG:(Instr.keyThatStays (((aK[j]?).map (·.key)).getD k) k).run P w=.ok k w:=by
       rw [e3]
       simp [e4,L.stays w k hk]
      simp only [Instr.mapUpdate,Sem.run_bind,run_underlying ht,Result.andThen_ok,run_getObj_map hb,L.check w _ k hk,e7]
      simp only [EG,Result.andThen_ok,ya hb]
    ·cases hi
   ·cases hi
 ·cases hi
theorem sH.era {g:fR} {es:List (Nat×Value×Value)} {aK:Array MapEntry} (E:sH ρ g es aK) {j:Nat} (hj:j<es.length):sH ρ g (es.eraseIdx j) (aK.eraseIdxIfInBounds j):=by
 have aD:j<aK.size:=by rw [E.size];exact hj
 have he:aK.eraseIdxIfInBounds j=aK.eraseIdx j aD:=by simp [Array.eraseIdxIfInBounds,aD]
 rw [he]
 refine ⟨by rw [Array.size_eraseIdx,List.length_eraseIdx,if_pos hj,E.size],?_,?_⟩
 ·refine List.Nodup.sublist ?_ E.nodup
  exact (List.eraseIdx_sublist _ _).map _
 ·intro i b k v hi
  rw [List.getElem?_eraseIdx] at hi
  split at hi
  ·rename_i fB
   obtain ⟨g1,en,g2,g3⟩:=E.get i b k v hi
   exact ⟨g1,en,by rw [Array.getElem?_eraseIdx,if_pos fB];exact g2,g3⟩
  ·rename_i fB
   obtain ⟨g1,en,g2,g3⟩:=E.get (i+1) b k v hi
   exact ⟨g1,en,by rw [Array.getElem?_eraseIdx,if_neg fB];exact g2,g3⟩
theorem aDY (H:aY P ρ h w) {t ty:TypeId} {ts:Array TypeId} {g:fR} {m m' k k':Value} {h':ae} (EJ:ts[0]?=some t) (hg:rM P t=some g)
  (hi:ET g h m k=some h') (hm:ax ρ m m') (lh:ax ρ k k'):∃w',(Builtin.delete_ ts ty #[m',k']).run P w=.ok (.tuple #[]) w'∧aY P ρ h' w'∧Tr ρ h w ρ h' w':=by
 obtain ⟨kt,et,ht,L⟩:=IU hg
 unfold ET at hi
 split at hi
 ·rename_i i
  cases hm with
  | map hr=>
   rename_i r
   split at hi
   ·rename_i g' c es he
    split at hi
    ·rename_i mB
     obtain ⟨rfl,hk⟩:=mB
     simp at hi;subst hi
     rw [lh.key hk]
     obtain ⟨aK,hb,E⟩:=H.Bm hr he
     have jm:cA h i:=.inr (.inr (.inr (.inr (.inl ⟨_,_,es,he⟩))))
     rcases Vc (w:=w) L E hk with ⟨⟨e1,_⟩,e2⟩ | ⟨j,b,u,en,e1,e2,e3,e4,e5,e6,e7⟩
     ·have sb:=mP.obj hb (.map aK c)
      have kO:rJ k es=es:=by simp [rJ,e1]
      obtain ⟨q1,q2⟩:=H.set (o:=.di g' c (rJ k es)) hr jm sb (by rw [kO];exact ⟨E.nodup,_,sb.here,E.size,E.get⟩)
      refine ⟨_,?_,q1,q2⟩
      simp [Builtin.delete_,EJ,run_underlying ht,run_getObj_map hb,L.check w _ k hk,e2,ya hb]
     ·have E':=E.era (bD e2).1
      have sb:=mP.obj hb (.map (aK.eraseIdxIfInBounds j) c)
      have kO:rJ k es=es.eraseIdx j:=by simp [rJ,e1]
      obtain ⟨q1,q2⟩:=H.set (o:=.di g' c (rJ k es)) hr jm sb (by rw [kO];exact ⟨E'.nodup,_,sb.here,E'.size,E'.get⟩)
      refine ⟨_,?_,q1,q2⟩
      simp [Builtin.delete_,EJ,run_underlying ht,run_getObj_map hb,L.check w _ k hk,e7,ya hb]
    ·cases hi
   ·cases hi
 ·cases hi
theorem aEf (H:aY P ρ h w) {t:TypeId} {g:fR} {x x' v:Value} {h':ae} (hg:rM P t=some g) (hi:B7 h x=some (v,h')) (hx:ax ρ x x'):
  ∃w' av v',(Instr.range t x').run P w=.ok v' w'∧ax av v v'∧aY P av h' w'∧Tr ρ h w av h' w':=by
 obtain ⟨kt,et,ht,L⟩:=IU hg
 unfold B7 at hi
 split at hi
 ·rename_i i
  cases hx with
  | map hr=>
   rename_i r
   split at hi
   ·rename_i g' c es he
    simp at hi
    obtain ⟨rfl,rfl⟩:=hi
    obtain ⟨aK,hb,E⟩:=H.Bm hr he
    have nb:=jU.alloc w (.mapIter (some r.bz) c #[] c)
    have bk:i≠h.length:=by
     have:=(bD he).1
     omega
    obtain ⟨q1,q2⟩:=H.new (h₀:=h) (o:=.iter i c [] c) (r:=⟨w.heap.size,0,0,P.cellsOf 0,0⟩) nb rfl rfl rfl (fun _=>.inl rfl)
     ⟨rfl,r,by simp [aL.add,bk,hr],nb.new⟩
    refine ⟨_,_,.pointer (some ⟨w.heap.size,0,none⟩),?_,?_,q1,q2⟩
    ·simp [Instr.range,run_underlying ht,run_getObj_map hb,newObj,Sem.run,Result.andThen]
    ·exact ax.ptr (o:=0) (A9 _ _ _)
   ·cases hi
 ·cases hi
theorem kf.val {v v':Value} {h':ae} {s:Result Next} {w':World} {av:aL} (e:s=.ok (.value v') w') (a:ax av v v') (b:aY P av h' w') (c:Tr ρ h w av h' w'):kf P ρ h w v h' s:=
 ⟨_,_,_,_,e,.inl rfl,a,b,c⟩
theorem kf.skip {h':ae} {s:Result Next} {w':World} (e:s=.ok .skip w') (b:aY P ρ h' w') (c:Tr ρ h w ρ h' w'):kf P ρ h w undef h' s:=
 ⟨_,_,_,_,e,.inr ⟨rfl,rfl⟩,ax.undef _,b,c⟩
theorem avt {o:Oper} {eo:pE} {g g':Operand→Value} (hc:iG P o.op=some eo) (aH:o.op.operands.all jC=true) (H:aY P ρ h w)
  (hg:∀x,jC x=true→ax ρ (g x) (g' x)) {v:Value} {h':ae} (hi:gj eo g h=some (v,h')):kf P ρ h w v h' ((execOp g' o).run P w):=by
 cases ho:o.op with
 | store t a x=>
  rw [ho] at hc aH
  simp [Op.operands] at aH
  simp only [iG] at hc
  split at hc
  ·rename_i hk
   simp at hc;subst hc
   simp only [gj,map_eq_some_iff,Prod.mk.injEq] at hi
   obtain ⟨aT,hi,rfl,rfl⟩:=hi
   obtain ⟨w',q1,q2,q3⟩:=aEi H hk hi (hg a aH.1) (hg x aH.2)
   exact kf.skip (w':=w') (by simp [execOp,ho,q1]) q2 q3
  ·cases hc
 | box e x=>
  rw [ho] at hc aH
  simp [Op.operands] at aH
  simp [iG] at hc;subst hc
  obtain ⟨w',av,v',q1,q2,q3,q4⟩:=aDU H hi (hg x aH)
  exact kf.val (v':=v') (w':=w') (by simp [execOp,ho,q1]) q2 q3 q4
 | alloc e=>
  rw [ho] at hc
  simp only [iG,map_eq_some_iff] at hc
  obtain ⟨zs,hz,rfl⟩:=hc
  simp [gj] at hi
  obtain ⟨rfl,rfl⟩:=hi
  obtain ⟨w',av,v',q1,q2,q3,q4⟩:=aDQ H hz
  exact kf.val (v':=v') (w':=w') (by simp [execOp,ho,q1]) q2 q3 q4
 | buildSlice t n ps=>
  rw [ho] at hc aH
  simp only [iG] at hc
  simp only [Op.operands] at aH
  split at hc
  ·rename_i e ht
   split at hc
   ·rename_i zs hz
    split at hc
    ·rename_i hb
     simp at hc;subst hc
     have hq:∀q∈ps.toList,jC q.2=true:=by
      intro q hm
      rw [Array.all_eq_true'] at aH
      exact aH q.2 (by simp;exact ⟨q.1,by simpa using hm⟩)
     have hp:=UE hg (fun i=>(i*P.cellsOf e,P.cellsOf e)) ps.toList hq
     obtain ⟨w',av,v',q1,q2,q3,q4⟩:=aEd H ht hz hb.1 hb.2 (qs:=ps.map fun (i,x)=>(i,g' x)) (by simpa using hp) hi
     exact kf.val (v':=v') (w':=w') (by simp [execOp,ho,q1]) q2 q3 q4
    ·cases hc
   ·cases hc
  ·cases hc
 | makeSlice t l c=>
  rw [ho] at hc aH
  simp [Op.operands] at aH
  simp only [iG] at hc
  split at hc
  ·rename_i e ht
   split at hc
   ·rename_i zs hz
    simp at hc;subst hc
    obtain ⟨w',av,v',q1,q2,q3,q4⟩:=aD9 H ht hz hi (hg l aH.1) (hg c aH.2)
    exact kf.val (v':=v') (w':=w') (by simp [execOp,ho,q1]) q2 q3 q4
   ·cases hc
  ·cases hc
 | range t x=>
  rw [ho] at hc aH
  simp [Op.operands] at aH
  simp only [iG,map_eq_some_iff] at hc
  obtain ⟨g,kK,rfl⟩:=hc
  obtain ⟨w',av,v',q1,q2,q3,q4⟩:=aEf H kK hi (hg x aH)
  exact kf.val (v':=v') (w':=w') (by simp [execOp,ho,q1]) q2 q3 q4
 | next it b=>
  rw [ho] at hc
  cases b with
  | false=>simp [iG] at hc;subst hc;simp [gj] at hi
  | true=>simp [iG] at hc
 | makeMap t r=>
  rw [ho] at hc
  cases r with
  | none=>
   cases kK:rM P t with
   | some g=>
    simp only [iG,kK,Option.some.injEq] at hc
    subst hc
    simp [gj] at hi
    obtain ⟨rfl,rfl⟩:=hi
    obtain ⟨w',av,v',q1,q2,q3,q4⟩:=aEb H t g
    exact kf.val (v':=v') (w':=w') (by simp [execOp,ho,q1]) q2 q3 q4
   | none=>
   have two:eo=.mkMap∨∃kd,eo=.JT kd:=by
    simp only [iG,kK] at hc
    split at hc
    ·split at hc
     ·simp at hc;exact .inr ⟨_,hc.symm⟩
     ·simp at hc;exact .inl hc.symm
    ·simp at hc;exact .inl hc.symm
   rcases two with rfl | ⟨kd,rfl⟩
   ·simp [gj] at hi
    obtain ⟨rfl,rfl⟩:=hi
    obtain ⟨w',av,v',q1,q2,q3,q4⟩:=aEa H t
    exact kf.val (v':=v') (w':=w') (by simp [execOp,ho,q1]) q2 q3 q4
   ·simp [gj] at hi
    obtain ⟨rfl,rfl⟩:=hi
    obtain ⟨w',av,v',q1,q2,q3,q4⟩:=aEc H t kd
    exact kf.val (v':=v') (w':=w') (by simp [execOp,ho,q1]) q2 q3 q4
  | some r=>simp [iG] at hc
 | mapUpdate t m k x=>
  rw [ho] at hc aH
  simp [Op.operands] at aH
  simp only [iG] at hc
  split at hc
  ·rename_i g kK
   simp at hc;subst hc
   simp only [gj,map_eq_some_iff,Prod.mk.injEq] at hi
   obtain ⟨aT,hi,rfl,rfl⟩:=hi
   obtain ⟨w',q1,q2,q3⟩:=al7 H kK hi (hg m aH.1) (hg k aH.2.1) (hg x aH.2.2)
   exact kf.skip (w':=w') (by simp [execOp,ho,q1]) q2 q3
  split at hc
  ·rename_i kt et ht
   split at hc
   ·rename_i hk
    simp at hc;subst hc
    simp only [gj,map_eq_some_iff,Prod.mk.injEq] at hi
    obtain ⟨aT,hi,rfl,rfl⟩:=hi
    obtain ⟨w',q1,q2,q3⟩:=al6 H ht hk hi (hg m aH.1) (hg k aH.2.1) (hg x aH.2.2)
    exact kf.skip (w':=w') (by simp [execOp,ho,q1]) q2 q3
   ·simp only [map_eq_some_iff] at hc
    obtain ⟨kd,mB,rfl⟩:=hc
    simp only [gj,map_eq_some_iff,Prod.mk.injEq] at hi
    obtain ⟨aT,hi,rfl,rfl⟩:=hi
    obtain ⟨w',q1,q2,q3⟩:=al8 H ht mB hi (hg m aH.1) (hg k aH.2.1) (hg x aH.2.2)
    exact kf.skip (w':=w') (by simp [execOp,ho,q1]) q2 q3
  ·cases hc
 | insert t m k x=>
  rw [ho] at hc aH
  simp [Op.operands] at aH
  simp only [iG] at hc
  split at hc
  ·rename_i g kK
   simp at hc;subst hc
   simp only [gj,map_eq_some_iff,Prod.mk.injEq] at hi
   obtain ⟨aT,hi,rfl,rfl⟩:=hi
   obtain ⟨w',q1,q2,q3⟩:=al7 H kK hi (hg m aH.1) (hg k aH.2.1) (hg x aH.2.2)
   exact kf.skip (w':=w') (by simp [execOp,ho,q1]) q2 q3
  split at hc
  ·rename_i kt et ht
   split at hc
   ·rename_i hk
    simp at hc;subst hc
    simp only [gj,map_eq_some_iff,Prod.mk.injEq] at hi
    obtain ⟨aT,hi,rfl,rfl⟩:=hi
    obtain ⟨w',q1,q2,q3⟩:=al6 H ht hk hi (hg m aH.1) (hg k aH.2.1) (hg x aH.2.2)
    exact kf.skip (w':=w') (by simp [execOp,ho,q1]) q2 q3
   ·simp only [map_eq_some_iff] at hc
    obtain ⟨kd,mB,rfl⟩:=hc
    simp only [gj,map_eq_some_iff,Prod.mk.injEq] at hi
    obtain ⟨aT,hi,rfl,rfl⟩:=hi
    obtain ⟨w',q1,q2,q3⟩:=al8 H ht mB hi (hg m aH.1) (hg k aH.2.1) (hg x aH.2.2)
    exact kf.skip (w':=w') (by simp [execOp,ho,q1]) q2 q3
  ·cases hc
 | call c=>
  rw [ho] at hc aH
  obtain ⟨callee,args,argTypes⟩:=c
  cases callee with
  | builtin b=>
   cases b with
   | append=>
    simp only [iG] at hc
    split at hc
    ·rename_i s x t t' hx vY
     obtain rfl:args=#[s,x]:=ext' hx
     obtain rfl:argTypes=#[t,t']:=ext' vY
     simp [Op.operands,Call.operands] at aH
     split at hc
     ·rename_i hte
      subst hte
      split at hc
      ·rename_i e ht
       split at hc
       ·rename_i zs hz
        simp at hc;subst hc
        obtain ⟨w',av,v',q1,q2,q3,q4⟩:=aDR (type:=o.type) H ht hz hi (hg s aH.1) (hg x aH.2)
        exact kf.val (v':=v') (w':=w') (by simp [execOp,ho,resolve,invoke,builtin,q1]) q2 q3 q4
       ·cases hc
      ·cases hc
     ·cases hc
    ·cases hc
   | copy=>
    simp only [iG] at hc
    split at hc
    ·rename_i d x t t' hx vY
     obtain rfl:args=#[d,x]:=ext' hx
     obtain rfl:argTypes=#[t,t']:=ext' vY
     simp [Op.operands,Call.operands] at aH
     split at hc
     ·rename_i e ht
      split at hc
      ·rename_i hz
       simp at hc;subst hc
       obtain ⟨w',q1,q2,q3,q4⟩:=aDX (tt:=t') (type:=o.type) H ht hz hi (hg d aH.1) (hg x aH.2)
       exact kf.val (v':=v) (w':=w') (by simp [execOp,ho,resolve,invoke,builtin,q1]) q2 q3 q4
      ·cases hc
     ·cases hc
    ·cases hc
   | delete=>
    simp only [iG] at hc
    split at hc
    ·rename_i m k t hx vY
     obtain rfl:args=#[m,k]:=ext' hx
     simp [Op.operands,Call.operands] at aH
     simp only [map_eq_some_iff] at hc
     obtain ⟨g,kK,rfl⟩:=hc
     simp only [gj,map_eq_some_iff,Prod.mk.injEq] at hi
     obtain ⟨aT,hi,rfl,rfl⟩:=hi
     obtain ⟨w',q1,q2,q3⟩:=aDY (ty:=o.type) H vY kK hi (hg m aH.1) (hg k aH.2)
     exact kf.val (v':=.tuple #[]) (w':=w') (by simp [execOp,ho,resolve,invoke,builtin,q1]) (ax.undef _) q2 q3
    ·cases hc
   | _=>simp [iG] at hc
  | _=>simp [iG] at hc
 | panic x=>rw [ho] at hc;simp [iG] at hc;subst hc;simp [gj] at hi
 | makeInterface t x=>rw [ho] at hc;simp [iG] at hc;subst hc;simp [gj] at hi
 | _=>rw [ho] at hc;simp [iG] at hc
end
end
section
inductive gW where
 | p (o:qy)
 | l (o:pH)
 | e (o:pE)
 | call (f:FuncId) (args:List Operand)
 | kY (x:Operand) (args:List Operand)
structure iT where
 dst:Option Nat
 op:gW
 guard:Option (Nat×Bool)
structure jf where
 dst:Option Nat
 op:gW
structure cU where
 op:iT
 pre:Nat
structure kh where
 dst:Option Nat
 op:gW
 pre:Nat
inductive fa where
 | skip
 | Iy (l:List (Option (Nat×Bool)×List kh))
 | ops (g:Option (Nat×Bool)) (l:List jf)
 | seq (a b:fa)
 | cut (ls:List Nat) (c:fa)
 | cond (c:Operand) (a b:fa)
 | block (id:Nat) (c:fa)
 | loop (ks ls:List Nat) (c:fa)
 | exit (id:Nat)
 | ret
 | range (g:Operand) (ls:List Nat) (c:Di)
abbrev FR (R:Option Nat):Fence:={ Fence.wide with round:=R }
def wT (P:Program) (F:FuncId) (args:List Value) (h:ae) (v:Value) (h':ae):Prop:=
 ∀(ρ:aL) (args':Array Value) (w:World),bF ρ args args'.toList→aY P ρ h w→
  Calls P F args' w fun e w'=>∃v' av,e=.returned v'∧ax av v v'∧aY P av h' w'∧Tr ρ h w av h' w'
def se (P:Program) (F:FuncId) (args:List Value) (h:ae) (K:Value→ae→Prop):Prop:=∃v h',wT P F args h v h'∧K v h'
theorem se.mono {P:Program} {F:FuncId} {args:List Value} {h:ae} {K K':Value→ae→Prop} (hc:se P F args h K) (hk:∀v h',K v h'→K' v h'):se P F args h K':=
 let ⟨v,h',a,b⟩:=hc;⟨v,h',a,hk v h' b⟩
def Mf (P:Program) (i:Nat) (args:List Value) (h:ae) (v:Value) (h':ae):Prop:=
 ∀(ρ:aL) (r:RI) (args':Array Value) (w:World),ρ i=some r→bF ρ args args'.toList→aY P ρ h w→
  ∃fn tmps kj body,(Instr.yield r.bz args').run P w=.ok (.round r.bz fn tmps kj body) w∧
   RoundIn Fence.wide 0 P r.bz fn tmps kj body w fun e w'=>∃v' av,e=.returned v'∧ax av v v'∧aY P av h' w'∧Tr ρ h w av h' w'
def EY (P:Program) (i:Nat) (args:List Value) (h:ae) (K:Value→ae→Prop):Prop:=∃v h',Mf P i args h v h'∧K v h'
theorem EY.mono {P:Program} {i:Nat} {args:List Value} {h:ae} {K K':Value→ae→Prop} (hc:EY P i args h K) (hk:∀v h',K v h'→K' v h'):EY P i args h K':=
 let ⟨v,h',a,b⟩:=hc;⟨v,h',a,hk v h' b⟩
def rG (P:Program) (f:FuncId):Bool:=
 match P.funcs[f]? with
 | some fn=>fn.name != "runtime.NumGoroutine" &&fn.body.isSome
 | none=>false
def fD (o:Option Value) (K:Value→Prop):Prop:=
 match o with
 | some v=>K v
 | none=>False
def nQ (o:Option (Value×ae)) (K:Value→ae→Prop):Prop:=
 match o with
 | some (v,h')=>K v h'
 | none=>False
def tQ (P:Program) (x:Value) (args:List Value) (h:ae) (K:Value→ae→Prop):Prop:=
 match x with
 | .func (.func g) first cap=>rG P g=true∧se P g (first.toList++args++cap.toList) h K
 | .func (.yield i) first cap=>(first=#[]∧cap=#[])∧EY P i args h K
 | _=>False
def uH (P:Program) (g:Value) (ls:List Nat) (vs:List Value) (c:Di) (h:ae) (K:ae→Prop):Prop:=
 match g with
 | .func (.func F) first cap=>rG P F=true∧se P F (first.toList++[.func (.yield h.length) #[] #[]]++cap.toList) (h++[.loop c ls vs]) fun _ h'=>
   (∃c' ls' ju,h'[h.length]?=some (.loop c' ls' ju))∧K (h'.set h.length .dead)
 | _=>False
def dd (P:Program) (o:gW) (f:Nat→Value) (h:ae) (K:Value→ae→Prop):Prop:=
 match o with
 | .p o=>fD (jB o (ev f)) fun v=>K v h
 | .l o=>fD (fC o (ev f) h) fun v=>K v h
 | .e o=>nQ (gj o (ev f) h) K
 | .call g args=>se P g (args.map (ev f)) h K
 | .kY x args=>tQ P (ev f x) (args.map (ev f)) h K
def qY (v:Value) (b:Bool):Bool:=
 match v with
 | .bool c=>c==b
 | _=>false
def wj:Value→Bool
 | .complex _ _ _=>true
 | _=>false
def iO (g:Option (Nat×Bool)) (f:Nat→Value):Bool:=
 match g with
 | none=>true
 | some (s,b)=>qY (f s) b
def kH (v:Value) (b:Bool) (A B:Prop):Prop:=
 match v with
 | .bool c=>if (c==b)=true then A else B
 | .complex _ _ _=>False
 | _=>B
def dG (f:Nat→Value) (d:Option Nat) (v:Value):Nat→Value:=
 match d with
 | some d=>ye f d v
 | none=>f
def ti (P:Program):List iT→((Nat→Value)→ae→Prop)→(Nat→Value)→ae→Prop
 | [],K,f,h=>K f h
 | o::os,K,f,h=>
  match o.guard with
  | none=>dd P o.op f h fun v h'=>ti P os K (dG f o.dst v) h'
  | some (s,b)=>kH (f s) b (dd P o.op f h fun v h'=>ti P os K (dG f o.dst v) h') (ti P os K (dG f o.dst undef) h)
def xr (P:Program):List jf→((Nat→Value)→ae→Prop)→(Nat→Value)→ae→Prop
 | [],K,f,h=>K f h
 | o::os,K,f,h=>dd P o.op f h fun v h'=>xr P os K (dG f o.dst v) h'
def CO:List jf→(Nat→Value)→(Nat→Value)
 | [],f=>f
 | o::os,f=>CO os (dG f o.dst undef)
def tA (P:Program) (g:Option (Nat×Bool)) (l:List jf) (K:(Nat→Value)→ae→Prop) (f:Nat→Value) (h:ae):Prop:=
 match g with
 | none=>xr P l K f h
 | some (s,b)=>kH (f s) b (xr P l K f h) (K (CO l f) h)
def gW.dF:gW→Bool
 | .p _=>false
 | .l _=>false
 | _=>true
abbrev eK:=List (Nat×pH×(Nat→Value)×Value)
def xa (pre:Nat) (lo:pH) (f:Nat→Value) (v:Value):List (Nat×ae)→Prop
 | []=>True
 | (e,H)::r=>if pre.testBit e=true then xa pre lo f v r else fC lo (ev f) H=some v∧xa pre lo f v r
def lM (pre:Nat) (H:ae):eK→Prop
 | []=>True
 | (j,lo,f,v)::r=>if pre.testBit j=true then lM pre H r else fC lo (ev f) H=some v∧lM pre H r
def kZ (P:Program) (io:gW) (pre j:Nat) (aN:List (Nat×ae)) (aJ:eK) (f:Nat→Value) (h:ae) (next:List (Nat×ae)→eK→Value→ae→Prop):Prop:=
 match io with
 | .p po=>fD (jB po (ev f)) fun v=>next aN aJ v h
 | .l lo=>fD (fC lo (ev f) h) fun v=>xa pre lo f v aN∧next aN (aJ++[(j,lo,f,v)]) v h
 | .e (.fl a)=>nQ (gj (.fl a) (ev f) h) fun v h'=>fD (eL h' v) fun u=>lM pre h' aJ∧next (aN++[(j,h)]) (aJ++[(j,.obj (.const v),f,u)]) v h'
 | .e eo=>nQ (gj eo (ev f) h) fun v h'=>lM pre h' aJ∧next (aN++[(j,h)]) aJ v h'
 | .call g args=>se P g (args.map (ev f)) h fun v h'=>lM pre h' aJ∧next (aN++[(j,h)]) aJ v h'
 | .kY x args=>tQ P (ev f x) (args.map (ev f)) h fun v h'=>lM pre h' aJ∧next (aN++[(j,h)]) aJ v h'
def xf (io:gW) (pre j:Nat) (aN:List (Nat×ae)) (aJ:eK) (h:ae) (next:List (Nat×ae)→eK→Value→ae→Prop):Prop:=
 match io.dF with
 | false=>next aN aJ undef h
 | true=>lM pre h aJ∧next (aN++[(j,h)]) aJ undef h
def lB (P:Program):List cU→Nat→List (Nat×ae)→eK→((Nat→Value)→ae→Prop)→(Nat→Value)→ae→Prop
 | [],_,_,_,K,f,h=>K f h
 | o::os,j,aN,aJ,K,f,h=>
  match o.op.guard with
  | none=>kZ P o.op.op o.pre j aN aJ f h fun aN aJ v h'=>lB P os (j+1) aN aJ K (dG f o.op.dst v) h'
  | some (s,b)=>
   kH (f s) b (kZ P o.op.op o.pre j aN aJ f h fun aN aJ v h'=>lB P os (j+1) aN aJ K (dG f o.op.dst v) h')
    (xf o.op.op o.pre j aN aJ h fun aN aJ v h'=>lB P os (j+1) aN aJ K (dG f o.op.dst v) h')
def pb (P:Program):List kh→Nat→List (Nat×ae)→eK→(List (Nat×ae)→eK→(Nat→Value)→ae→Prop)→(Nat→Value)→ae→Prop
 | [],_,aN,aJ,K,f,h=>K aN aJ f h
 | o::os,j,aN,aJ,K,f,h=>kZ P o.op o.pre j aN aJ f h fun aN aJ v h'=>pb P os (j+1) aN aJ K (dG f o.dst v) h'
def vF:List kh→Nat→List (Nat×ae)→eK→(List (Nat×ae)→eK→(Nat→Value)→ae→Prop)→(Nat→Value)→ae→Prop
 | [],_,aN,aJ,K,f,h=>K aN aJ f h
 | o::os,j,aN,aJ,K,f,h=>xf o.op o.pre j aN aJ h fun aN aJ v h'=>vF os (j+1) aN aJ K (dG f o.dst v) h'
def ow (P:Program):List (Option (Nat×Bool)×List kh)→Nat→List (Nat×ae)→eK→((Nat→Value)→ae→Prop)→(Nat→Value)→ae→Prop
 | [],_,_,_,K,f,h=>K f h
 | (none,l)::gs,j,aN,aJ,K,f,h=>pb P l j aN aJ (fun aN aJ f h=>ow P gs (j+l.length) aN aJ K f h) f h
 | (some (s,b),l)::gs,j,aN,aJ,K,f,h=>
  kH (f s) b (pb P l j aN aJ (fun aN aJ f h=>ow P gs (j+l.length) aN aJ K f h) f h)
   (vF l j aN aJ (fun aN aJ f h=>ow P gs (j+l.length) aN aJ K f h) f h)
def aF (next:(Nat→Value)→ae→Prop) (K:Exit→(Nat→Value)→ae→Prop):Exit→(Nat→Value)→ae→Prop
 | .normal,f,h=>next f h
 | e,f,h=>K e f h
def bO (id:Nat) (K:Exit→(Nat→Value)→ae→Prop):Exit→(Nat→Value)→ae→Prop
 | .exit i,f,h=>if i=id then K .normal f h else K (.exit i) f h
 | e,f,h=>K e f h
def pN (c:Value) (a b:Prop):Prop:=
 match c with
 | .bool t=>if t=true then a else b
 | _=>False
def Bj (Q:(Nat→Value)→ae→Prop) (ls:List Nat) (vs:List Value) (h:ae):Prop:=Q (kA ls vs) h
def Ao (init:List Value) (h:ae) (Q:(List Value→ae→Prop)→List Value→ae→Prop):Prop:=
 ∃(J:List Value→ae→Prop) (μ:List Value→ae→Nat),J init h∧∀(xs:List Value) (hx:ae),J xs hx→Q (fun ys hy=>J ys hy∧μ ys hy<μ xs hx) xs hx
abbrev ar:=Exit→(Nat→Value)→ae→Prop
noncomputable def iZ (P:Program) (c:fa):ar→(Nat→Value)→ae→Prop:=
 fa.rec (motive:=fun _=>ar→(Nat→Value)→ae→Prop)
  (fun K f h=>K .normal f h)
  (fun l K f h=>ow P l 0 [] [] (K .normal) f h)
  (fun g l K f h=>tA P g l (K .normal) f h)
  (fun _ _ ia ib K f h=>ia (aF (ib K) K) f h)
  (fun ls _ ic K f h=>Bj (ic K) ls (ls.map f) h)
  (fun c _ _ ia ib K f h=>pN (ev f c) (ia K f h) (ib K f h))
  (fun id _ ic K f h=>ic (bO id K) f h)
  (fun ks ls _ ic K f h=>Ao (ls.map f) h fun L xs hx=>ic (aF (fun f' aT=>ks.map f'=ks.map f∧L (ls.map f') aT) K) (kA (ks++ls) (ks.map f++xs)) hx)
  (fun id K f h=>K (.exit id) f h)
  (fun K f h=>K .ret f h)
  (fun g ls c K f h=>uH P (ev f g) ls (ls.map f) c h (K .normal f)) c
theorem afn {P:Program} {c:Operand} {a b:fa} {K:ar} {f:Nat→Value} {h:ae}:iZ P (.cond c a b) K f h=pN (ev f c) (iZ P a K f h) (iZ P b K f h):=rfl
def vz (P:Program) (op:Op):Option gW:=
 match iU P op with
 | some o=>some (.p o)
 | none=>match vk P op with
  | some o=>some (.l o)
  | none=>match iG P op with
   | some o=>some (.e o)
   | none=>match op with
    | .call { callee:=.value (.func f),args,.. }=>if rG P f then some (.call f args.toList) else none
    | .call { callee:=.value x,args,.. }=>some (.kY x args.toList)
    | _=>none
def Io (N:Nat) (ops:Array Oper):Option (Nat×Bool)→Option (Option (Nat×Bool))
 | none=>some none
 | some (j,b)=>match (ops[j]?).bind (·.dst) with
  | some s=>if s<N then some (some (s,b)) else none
  | none=>none
def yM (P:Program) (N:Nat) (ops:Array Oper) (o:Oper):Option iT:=
 if o.op.operands.all jC&&o.dst.all (·<N) then
  match vz P o.op,Io N ops o.guard with
  | some op,some g=>some ⟨o.dst,op,g⟩
  | _,_=>none
 else none
def lN (P:Program) (N:Nat) (ops:Array Oper):List Oper→Option (List iT)
 | []=>some []
 | o::os=>match yM P N ops o,lN P N ops os with
  | some x,some xs=>some (x::xs)
  | _,_=>none
def qy.iu:qy→List Operand
 | .mv x | .un _ x | .conv _ x | .Vt x | .Sx x | .Sy x | .Qd _ x | .Qh _ _ _ x | .SU x | .ext x _=>[x]
 | .pick c a b=>[c,a,b]
 | .bin _ x y | .IF _ x y | .IG _ x y | .Sb x y | .R9 _ _ _ x y | .OG _ x y | .OF _ _ x y=>[x,y]
 | .JM _=>[]
 | .E8 _ xs=>xs
 | .Lg x lo hi=>x::(lo.toList++hi.toList)
 | .Lh _ _ x lo hi=>x::(lo.toList++hi.toList)
 | .fn _ first captured=>first++captured
 | .build _ parts=>parts.map (·.2.2)
 | .Sa f x c=>[.func f,x,c]
def pH.iu:pH→List Operand
 | .load _ _ a=>[a]
 | .yG x=>[x]
 | .lookup _ _ m k=>[m,k]
 | .JO _ _ _ m k=>[m,k]
 | .JN _ _ _ m k=>[m,k]
 | .entry it=>[it]
 | .obj x=>[x]
def mM.iu:mM→List Operand
 | .alloc _ _=>[]
 | .nP _ _ _ parts=>parts.map (·.2.2)
 | .make _ _ _ l c=>[l,c]
 | .pA _=>[]
def pE.iu:pE→List Operand
 | .fl a=>a.iu
 | .store _ a v=>[a,v]
 | .box _ x=>[x]
 | .alloc _ _=>[]
 | .nP _ _ _ parts=>parts.map (·.2.2)
 | .make _ _ _ l c=>[l,c]
 | .app _ _ _ s x=>[s,x]
 | .mkMap=>[]
 | .JT _=>[]
 | .die=>[]
 | .pA _=>[]
 | .SN _ m k v=>[m,k,v]
 | .DO _ m k=>[m,k]
 | .U4 x=>[x]
 | .next it=>[it]
 | .SO _ m k v=>[m,k,v]
 | .SM m k v=>[m,k,v]
 | .copy d s=>[d,s]
def gW.iu:gW→List Operand
 | .p o=>o.iu
 | .l o=>o.iu
 | .e o=>o.iu
 | .call _ args=>args
 | .kY x args=>x::args
def tmpsOf:List Operand→List Nat
 | []=>[]
 | .tmp t::xs=>t::tmpsOf xs
 | _::xs=>tmpsOf xs
def iT.reads (o:iT):List Nat:=(match o.guard with | some (s,_)=>[s] | none=>[])++tmpsOf o.op.iu
def wE (qk:List Nat):List Nat→Nat
 | []=>0
 | e::es=>(2^e ||| qk.getD e 0) ||| wE qk es
def jF:List (List Nat)→List Nat→List Nat
 | [],acc=>acc
 | es::r,acc=>jF r (acc++[wE acc es])
def uN (o:cU) (t:Nat):Bool:=o.op.dst==some t||o.op.reads.contains t
def Cv (oj:cU) (j:Nat) (oi:cU) (i:Nat):Bool:=
 (i==j||(match oi.op.dst with
  | none=>true
  | some t=> !uN oj t||(if i<j then oj.pre.testBit i else oi.pre.testBit j)))&&
 (!(decide (i<j)&&oi.op.op.dF&&oj.op.op.dF)||oj.pre.testBit i)
def KJ (l:List cU):Bool:=l.zipIdx.all fun (oj,j)=>l.zipIdx.all fun (oi,i)=>Cv oj j oi i
def fq (o:Oper):List Nat:=o.after.toList.filterMap fun e=>if Region.binds .any e then some e.on else none
def yH (ops:List Oper):Nat→Bool
 | i=>match ops with
  | []=>true
  | o::os=>(fq o).all (·<i)&&yH os (i+1)
def oR:List iT→List Nat→List cU
 | o::os,p::ps=>⟨o,p⟩::oR os ps
 | _,_=>[]
def PJ (P:Program) (N:Nat) (ops:Array Oper):Option (List cU):=
 match lN P N ops ops.toList with
 | some ios=>
  if P.follows .mixedOrders&&yH ops.toList 0&&KJ (oR ios (jF (ops.toList.map fq) [])) then some (oR ios (jF (ops.toList.map fq) [])) else none
 | none=>none
def iL (o:cU):Bool:=match o.op.op with | .e (.fl _)=>true | _=>false
def Qj (l:List cU):List Nat:=
 l.zipIdx.filterMap fun (oi,i)=>
  if (match oi.op.op with | .e eo=>eo.Lu.isSome | _=>false)&&oi.op.guard.isNone&&(l.zipIdx.any fun (oj,j)=>j != i&&oj.op.op.dF&& !(oi.pre.testBit j)&& !(oj.pre.testBit i)) then some i else none
def D4 (o:iT):iT:=
 match o.op,o.guard with
 | .e eo,none=>match eo.Lu with | some a=>⟨o.dst,.e (.fl a),none⟩ | none=>o
 | _,_=>o
def JR (pre:Nat):List Nat→Nat→Nat
 | [],_=>0
 | i::is,q=>(if pre.testBit i then 2^q else 0) ||| JR pre is (q+1)
def az7 (l:List cU) (fl:List Nat):List Nat:=
 let inD:=fun i=>fl.contains i||fl.any fun a=>((l[a]?).map fun o=>o.pre.testBit i).getD false
 (List.range l.length).filter inD++(List.range l.length).filter fun i=> !inD i
def afz (l:List cU) (fl perm:List Nat):List cU:=
 perm.filterMap fun i=>(l[i]?).map fun o=>⟨if fl.contains i then D4 o.op else o.op,JR o.pre perm 0⟩
def Ix:List Nat→Bool
 | []=>true
 | x::xs=> !(xs.contains x)&&Ix xs
def Cw (oj:cU) (j:Nat) (oi:cU) (i:Nat):Bool:=
 (i==j||(match oi.op.dst with
  | none=>true
  | some t=> !uN oj t||(if i<j then oj.pre.testBit i else oi.pre.testBit j)))&&
 (!(decide (i<j)&&oi.op.op.dF&&oj.op.op.dF&& !(iL oi)&& !(iL oj))||oj.pre.testBit i)
def uf (l:List cU):Nat:=l.length-((l.reverse.takeWhile fun o=> !(iL o)).length)
def okF (l:List cU) (perm:List Nat) (qk:List Nat):Bool:=
 l.length==qk.length&&perm.length==qk.length&&Ix perm&&perm.all (·<qk.length)&&
 (l.zipIdx.all fun (oj,j)=>l.zipIdx.all fun (oi,i)=>Cw oj j oi i)&&
 (l.zipIdx.all fun (o,q)=>if q<uf l then !(o.op.op.dF)||iL o else !(iL o))&&
 (l.zipIdx.all fun (o,q)=>(List.range qk.length).all fun k=>o.pre.testBit k==(qk.getD (perm.getD q 0) 0).testBit (perm.getD k 0))&&
 (l.zipIdx.all fun (o,_)=> !(iL o)||o.op.guard.isNone)
def Im (P:Program) (N:Nat) (ops:Array Oper):Option (List cU×List Nat):=
 match lN P N ops ops.toList with
 | some ios=>
  let qk:=jF (ops.toList.map fq) []
  let l:=oR ios qk
  let fl:=Qj l
  let perm:=az7 l fl
  let l':=afz l fl perm
  if P.follows .mixedOrders&&yH ops.toList 0&&okF l' perm qk then some (l',perm) else none
 | none=>none
def PK (P:Program) (N:Nat) (ops:Array Oper):Option (List cU):=
 match PJ P N ops with
 | some l=>some l
 | none=>(Im P N ops).map Prod.fst
def tZ:List iT→List (Option (Nat×Bool)×List jf)
 | []=>[]
 | o::os=>match tZ os with
  | (g,l)::gs=>if o.guard=g then (g,⟨o.dst,o.op⟩::l)::gs else (o.guard,[⟨o.dst,o.op⟩])::(g,l)::gs
  | []=>[(o.guard,[⟨o.dst,o.op⟩])]
def leaves (g:Option (Nat×Bool)) (d:Option Nat):Bool:=
 match g with
 | some (s,_)=>d != some s
 | none=>true
def xe:List cU→List (Option (Nat×Bool)×List kh)
 | []=>[]
 | o::os=>match xe os with
  | (g,l)::gs=>if o.op.guard=g then (g,⟨o.op.dst,o.op.op,o.pre⟩::l)::gs else (o.op.guard,[⟨o.op.dst,o.op.op,o.pre⟩])::(g,l)::gs
  | []=>[(o.op.guard,[⟨o.op.dst,o.op.op,o.pre⟩])]
abbrev Hints:=List (List Nat)
def xd (ls:List Nat) (c:fa):fa:=
 match ls with
 | []=>c
 | l::ls=>.cut (l::ls) c
def rp:List (Option (Nat×Bool)×List jf)→Hints→fa×Hints
 | [],hs=>(.skip,hs)
 | (g,l)::gs,hs=>
  match gs,hs with
  | [],hs=>(.ops g l,hs)
  | gs,h::hs=>let r:=rp gs hs;(.seq (.ops g l) (xd h r.1),r.2)
  | gs,[]=>let r:=rp gs [];(.seq (.ops g l) r.1,r.2)
def fm (P:Program) (N:Nat):Code→Hints→Option (fa×Hints)
 | .skip,hs=>some (.skip,hs)
 | .region _ ops false,hs=>
  match lN P N ops ops.toList with
  | some l=>if l.all fun o=>leaves o.guard o.dst then some (rp (tZ l) hs) else none
  | none=>some (.ops none [⟨none,.e .die⟩],hs)
 | .region _ ops true,hs=>
  match PK P N ops with
  | some l=>if l.all fun o=>leaves o.op.guard o.op.dst then some (.Iy (xe l),hs) else none
  | none=>none
 | .seq a b,hs=>
  match fm P N a hs with
  | some (x,h::hs)=>match fm P N b hs with
   | some (y,hs)=>some (.seq x (xd h y),hs)
   | none=>none
  | some (x,[])=>match fm P N b [] with
   | some (y,hs)=>some (.seq x y,hs)
   | none=>none
  | none=>none
 | .cond c a b,hs=>if jC c then match fm P N a hs with
  | some (x,hs)=>match fm P N b hs with
   | some (y,hs)=>some (.cond c x y,hs)
   | none=>none
  | none=>none
  else none
 | .block id c,hs=>match fm P N c hs with
  | some (x,hs)=>some (.block id x,hs)
  | none=>none
 | .loop c,hs=>
  match hs with
  | ks::ls::hs=>match fm P N c hs with
   | some (x,hs)=>some (.loop ks ls x,hs)
   | none=>none
  | _=>none
 | .exit id,hs=>some (.exit id,hs)
 | .ret,hs=>some (.ret,hs)
 | .rangeFunc g ps kj body,hs=>
  match hs with
  | ls::hs=>if jC g&&ps.all (·<N) then some (.range g ls ⟨N,ps,kj,body⟩,hs) else none
  | []=>none
 | _,_=>none
def iE:Code→Bool
 | .seq a b=>iE a&&iE b
 | .cond _ a b=>iE a&&iE b
 | .block _ c=>iE c
 | .loop c=>iE c
 | .rangeFunc .. =>false
 | _=>true
section
variable {P : Program} {N : Nat}
def yr (P:Program) (N B:Nat) (ρ:aL) (h:ae) (w:World) (e:Exit) (f':Nat→Value) (h':ae):Exit→Act→World→Prop:=
 fun e' a' w'=>e'=e∧∃av,ee P N B av f' h' a' w'∧Tr ρ h w av h' w'
def gR (P:Program) (N:Nat) (out:Bool) (c:Code) (f:Nat→Value) (h:ae) (e:Exit) (f':Nat→Value) (h':ae):Prop:=
 ∀R,(out=true→R=none)→∀B ρ a w,ee P N B ρ f h a w→c.wpIn (FR R) 0 P (yr P N B ρ h w e f' h') a w
def GL (P:Program) (N:Nat) (o:Oper) (f:Nat→Value) (h:ae) (v:Value) (h':ae):Prop:=
 ∀R B ρ a w,ee P N B ρ f h a w→∀(next:Act→World→Prop) (Q:Exit→Act→World→Prop),
  (∀av v' w',ax av v v'→aY P av h' w'→Tr ρ h w av h' w'→next (a.put o.dst v') w')→o.wpIn (FR R) 0 P a w next Q
theorem Lb {o:Oper} (hn:∀c,o.op≠ .defer c) (R:Option Nat) (g:Operand→Value):o.semAt R g=execOp g o:=by
 cases R with
 | none=>rfl
 | some l=>exact Oper.semAt_some l g o hn
theorem LI {R:Option Nat} {o:Oper} {a:Act} {w w':World} {next:Act→World→Prop} {Q:Exit→Act→World→Prop} {v:Value} (hn:∀c,o.op≠ .defer c)
  (he:(execOp a.eval o).run P w=.ok (.value v) w') (hk:next (a.put o.dst v) w'):o.wpIn (FR R) 0 P a w next Q:=by
 refine ⟨fun _ _=>trivial,?_⟩
 rw [Lb hn,he,Oper.uponIn_value]
 exact hk
theorem aFl {R:Option Nat} {o:Oper} {a:Act} {w w':World} {next:Act→World→Prop} {Q:Exit→Act→World→Prop} (hn:∀c,o.op≠ .defer c)
  (he:(execOp a.eval o).run P w=.ok .skip w') (hk:next (a.put o.dst undef) w'):o.wpIn (FR R) 0 P a w next Q:=by
 refine ⟨fun _ _=>trivial,?_⟩
 rw [Lb hn,he,Oper.uponIn_skip]
 exact hk
theorem ach {f:FuncId} {args:Array Value} {w:World} {K:Ending→World→Prop} (h:Calls P f args w K) (R:Option Nat) (n:Nat):CallsIn (FR R) n P f args w K:=by
 cases R with
 | none=>exact callsIn_wide.2 h
 | some l=>exact (callsIn_wide (n:=n)).2 h
theorem aDJ {l:Nat} {f:FuncId} {tmps:Array Value} {kj body:Code} {w:World} {K:Ending→World→Prop} (h:RoundIn Fence.wide 0 P l f tmps kj body w K) (R:Option Nat):
  RoundIn (FR R) 0 P l f tmps kj body w K:=h
theorem PB {f:FuncId} (h:rG P f=true) (args:Array Value) (w:World):(callFunc f args).run P w=.ok (.enter f args) w:=by
 unfold rG at h
 split at h
 ·rename_i fn hf
  simp only [and_eq_true,bne_iff_ne] at h
  obtain ⟨h1,h2⟩:=h
  have h3:fn.body≠none:=by
   intro hb
   simp [hb] at h2
  simp [callFunc,hf,h1,h3]
 ·cases h
theorem ah7 {o:Oper} {f:Nat→Value} {h:ae} {g:FuncId} {args:List Value} {v:Value} {h':ae} (hc:wT P g args h v h')
  (hd:∀c,o.op≠ .defer c)
  (he:∀B ρ a w,ee P N B ρ f h a w→∃args':Array Value,bF ρ args args'.toList∧(execOp a.eval o).run P w=.ok (.enter g args') w):GL P N o f h v h':=by
 intro r B ρ a w R next Q hn
 obtain ⟨args',hv,hr⟩:=he B ρ a w R
 refine ⟨fun _ _=>trivial,?_⟩
 rw [Lb hd,hr,Oper.uponIn_enter]
 refine ⟨fun h=>(by cases h),?_⟩
 refine (ach (hc ρ args' w hv R.heap) r _).mono ?_
 rintro e w' ⟨v',av,rfl,h1,h2,h3⟩
 exact hn av v' w' h1 h2 h3
theorem azP {o:Oper} {f:Nat→Value} {h:ae} {i:Nat} {args:List Value} {v:Value} {h':ae} (hc:Mf P i args h v h')
  (hd:∀c,o.op≠ .defer c)
  (he:∀B ρ a w,ee P N B ρ f h a w→∃(r:RI) (args':Array Value),ρ i=some r∧bF ρ args args'.toList∧(execOp a.eval o).run P w=(Instr.yield r.bz args').run P w):GL P N o f h v h':=by
 intro R' B ρ a w R next Q hn
 obtain ⟨r,args',hi,hv,hr⟩:=he B ρ a w R
 obtain ⟨fn,tmps,kj,body,e1,e2⟩:=hc ρ r args' w hi hv R.heap
 refine ⟨fun _ _=>trivial,?_⟩
 rw [Lb hd,hr,e1,Oper.uponIn_round]
 refine ⟨fun h=>(by cases h),?_⟩
 refine (aDJ e2 R').mono ?_
 rintro e w' ⟨v',av,rfl,h1,h2,h3⟩
 exact hn av v' w' h1 h2 h3
theorem acp {op:Op} {io:gW} (h:vz P op=some io):∀c,op≠ .defer c:=by
 rintro c rfl
 simp [vz,iU,vk,iG] at h
theorem PO {op:Op} {io:gW} (h:vz P op=some io):(∃o,io=.p o∧iU P op=some o)∨(∃o,io=.l o∧vk P op=some o)∨(∃o,io=.e o∧iG P op=some o)∨
  (∃f args at_,op=.call ⟨.value (.func f),args,at_⟩∧rG P f=true∧io=.call f args.toList)∨(∃x args at_,op=.call ⟨.value x,args,at_⟩∧io=.kY x args.toList):=by
 unfold vz at h
 split at h
 ·rename_i o ho;simp at h;exact .inl ⟨o,h.symm,ho⟩
 ·split at h
  ·rename_i o ho;simp at h;exact .inr (.inl ⟨o,h.symm,ho⟩)
  ·split at h
   ·rename_i o ho;simp at h;exact .inr (.inr (.inl ⟨o,h.symm,ho⟩))
   ·split at h
    ·split at h
     ·rename_i hc;simp at h;exact .inr (.inr (.inr (.inl ⟨_,_,_,rfl,hc,h.symm⟩)))
     ·cases h
    ·simp at h;exact .inr (.inr (.inr (.inr ⟨_,_,_,rfl,h.symm⟩)))
    ·cases h
theorem Av {o:Oper} {io:gW} {f:Nat→Value} {h:ae} {K:Value→ae→Prop} (hc:vz P o.op=some io) (aH:o.op.operands.all jC=true) (hs:dd P io f h K):
  ∃v h',GL P N o f h v h'∧K v h':=by
 have ph:=acp hc
 rcases PO hc with ⟨po,rfl,hp⟩ | ⟨lo,rfl,hl⟩ | ⟨eo,rfl,he⟩ | ⟨g,args,at_,ho,mV,rfl⟩ | ⟨x,args,at_,ho,rfl⟩
 ·simp only [dd,fD] at hs
  split at hs
  ·rename_i v hv
   refine ⟨v,h,?_,hs⟩
   intro _ B ρ a w R next Q hn
   obtain ⟨v',h1,h2⟩:=aAi w hp aH R.heap.aW (fun x hx=>R.ev hx) hv
   exact LI ph h1 (hn ρ v' w h2 R.heap (Tr.refl R.heap))
  ·exact hs.elim
 ·simp only [dd,fD] at hs
  split at hs
  ·rename_i v hv
   refine ⟨v,h,?_,hs⟩
   intro _ B ρ a w R next Q hn
   obtain ⟨v',h1,h2⟩:=aza hl aH R.heap (fun x hx=>R.ev hx) hv
   exact LI ph h1 (hn ρ v' w h2 R.heap (Tr.refl R.heap))
  ·exact hs.elim
 ·simp only [dd,nQ] at hs
  split at hs
  ·rename_i v h' hv
   refine ⟨v,h',?_,hs⟩
   intro _ B ρ a w R next Q hn
   obtain ⟨nx,w',av,v',e1,e2,e3,e4,e5⟩:=avt he aH R.heap (fun x hx=>R.ev hx) hv
   rcases e2 with rfl | ⟨rfl,rfl⟩
   ·exact LI ph e1 (hn av v' w' e3 e4 e5)
   ·exact aFl ph e1 (hn av undef w' e3 e4 e5)
  ·exact hs.elim
 ·obtain ⟨v,h',rO,hk⟩:=hs
  refine ⟨v,h',ah7 rO ph ?_,hk⟩
  intro B ρ a w R
  rw [ho] at aH
  simp [Op.operands,Call.operands] at aH
  refine ⟨args.map a.eval,by simpa using bF.Ar (fun x hx=>R.ev hx) (xs:=args.toList) (by simpa using aH.2),?_⟩
  simp [execOp,ho,resolve,Act.eval,Deferred.ofValue,invoke,PB mV]
 ·simp only [dd,tQ] at hs
  rw [ho] at aH
  simp [Op.operands,Call.operands] at aH
  split at hs
  ·rename_i g first cap hx
   obtain ⟨mV,v,h',rO,hk⟩:=hs
   refine ⟨v,h',ah7 rO ph ?_,hk⟩
   intro B ρ a w R
   have hr:=R.ev (x:=x) aH.1
   rw [hx] at hr
   generalize hy:a.eval x=y at hr
   cases hr with
   | func _ s1 s2 r1 r2=>
    rename_i Qf Ii
    refine ⟨Qf++args.map a.eval++Ii,?_,?_⟩
    ·have q1:=bF.tF s1 r1
     have q2:=bF.Ar (fun x hx=>R.ev hx) (xs:=args.toList) (by simpa using aH.2)
     have q3:=bF.tF s2 r2
     simpa using (q1.append q2).append q3
    ·simp [execOp,ho,resolve,hy,Deferred.ofValue,invoke,PB mV]
  ·rename_i i first cap hx
   obtain ⟨⟨rfl,rfl⟩,v,h',rO,hk⟩:=hs
   refine ⟨v,h',azP rO ph ?_,hk⟩
   intro B ρ a w R
   have hr:=R.ev (x:=x) aH.1
   rw [hx] at hr
   generalize hy:a.eval x=y at hr
   cases hr with
   | yield hi=>
    rename_i r
    refine ⟨r,args.map a.eval,hi,by simpa using bF.Ar (fun x hx=>R.ev hx) (xs:=args.toList) (by simpa using aH.2),?_⟩
    simp [execOp,ho,resolve,hy,Deferred.ofValue,invoke]
  ·exact hs.elim
end
end
end Go.Sim
