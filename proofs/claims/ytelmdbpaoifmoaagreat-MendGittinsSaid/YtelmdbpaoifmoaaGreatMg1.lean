/-
  Part 1 of the texts behind a statement of this seat: Sim1, Sim2, Sim3, Sim4, Sim5, Sim6, Sim7, Sim8, Sim7d, Sim9, Sim9g, Sim10, Sim11, Sim12, Sim13, Sim14.
-/
import Derived.WalkKit
import Derived.Laws.Append
import Derived.Laws.AppendOwn
import Derived.Laws.MakeOwn
import Derived.Laws.BytesString
import Derived.RangeFuncRecord
import Derived.Lib.Bytealg
import Derived.WalkSpells
import Derived.WideKeyArr
import Derived.MapKept
import Derived.Laws.CopyRow
import Derived.Laws.IdiomCopy
open Array (ext' getElem?_eq_getElem getElem?_toList)
open Bool (and_eq_true)
open List (all_eq_true getElem?_append_left getElem?_set_ne mem_of_getElem?)
open Nat (add_mul le_refl le_trans zero_add)
open Option (bind_eq_some_iff map_eq_some_iff)
namespace Go.Sim
section
theorem aS {p : Prop} [Decidable p] (h : ¬p) : decide p = false := decide_eq_false h
theorem aU {p : Prop} [Decidable p] (h : p) : decide p = true := decide_eq_true h
theorem bI {n m : Nat} (h : Nat.ble n m = true) : n ≤ m := Nat.le_of_ble_eq_true h
theorem bL {α : Type} {l : List α} {i : Nat} {a : α} (h : l[i]? = some a) : ∃ h : i < l.length, l[i] = a := List.getElem?_eq_some_iff.1 h
structure RI where
 bw:Nat
 sh:Nat
 elem:TypeId
 aY:Nat
 size:Nat
abbrev aK:=Nat→Option RI
structure Du where
 N:Nat
 ps:Array Tmp
 ky:Code
 body:Code
inductive gf where
 | int (k:IntKind)
 | str
 | ints (n:Nat) (k:IntKind)
 deriving DecidableEq
def kE (k:IntKind):Value→Bool
 | .int k' _=>decide (k'=k)
 | _=>false
def E7 (k:IntKind):Value→Bool
 | .int _ n=>decide (k.min≤n)&&decide (n≤k.max)
 | _=>false
def fz:gf→Value→Bool
 | .int k,v=>kE k v
 | .str,.string _=>true
 | .ints n k,.agg cs=>decide (cs.size=n)&&cs.toList.all fun v=>kE k v&&E7 k v
 | _,_=>false
inductive aj where
 | ro (e:TypeId) (xs:List Value)
 | arr (e:TypeId) (xs:List Value)
 | smap (es:List (ByteArray×Value))
 | fm (kd:IntKind) (es:List (Int×Value))
 | cU (g:gf) (clock:Nat) (es:List (Nat×Value×Value))
 | iter (m kG:Nat) (seen:List Nat) (last:Nat)
 | loop (c:Du) (ls:List Nat) (vs:List Value)
 | dead
abbrev ae:=List aj
abbrev ZH:Value:=.complex .f32 0 0
def kF:List Nat→List Value→Nat→Value
 | l::ls,v::vs,j=>match Nat.beq j l with | true=>v | false=>kF ls vs j
 | _,_,_=>ZH
theorem aAy (l:Nat) (ls:List Nat) (v:Value) (vs:List Value) (j:Nat):kF (l::ls) (v::vs) j=if j=l then v else kF ls vs j:=by
 show (match Nat.beq j l with | true=>v | false=>kF ls vs j)=_
 split
 ·rename_i h;rw [if_pos (Nat.eq_of_beq_eq_true h)]
 ·rename_i h;rw [if_neg (Nat.ne_of_beq_eq_false h)]
def gK:Value→Bool
 | .agg _ | .tuple _ | .complex _ _ _=>false
 | _=>true
inductive ax (ρ:aK):Value→Value→Prop
 | bool (b:Bool):ax ρ (.bool b) (.bool b)
 | int (k:IntKind) (n:Int):ax ρ (.int k n) (.int k n)
 | string (s:ByteArray):ax ρ (.string s) (.string s)
 | uR:ax ρ (.pointer none) (.pointer none)
 | rl:ax ρ (.slice none 0 0) (.slice none 0 0)
 | uQ:ax ρ (.map none) (.map none)
 | nilFunc:ax ρ .nilFunc .nilFunc
 | nilIface:ax ρ .nilIface .nilIface
 | ptr {i o:Nat} {r:RI}:ρ i=some r→ax ρ (.pointer (some ⟨i,o,none⟩)) (.pointer (some ⟨r.bw,r.sh+o,none⟩))
 | slice {i o n o' c':Nat} {r:RI}:ρ i=some r→(o'=r.sh+o∨(n=0∧0<o∧c'=0))→n≤c'→c'≤maxLen→o'+c'*r.aY≤r.size→
   ax ρ (.slice (some ⟨i,o,some r.elem⟩) n n) (.slice (some ⟨r.bw,o',none⟩) n c')
 | void (a:Addr):ax ρ (.slice none 0 1) (.slice (some a) 0 0)
 | map {i:Nat} {r:RI}:ρ i=some r→ax ρ (.map (some i)) (.map (some r.bw))
 | func (f:FuncId) {xs ys fL Bc:Array Value}:xs.size=fL.size→ys.size=Bc.size→
   (∀(k:Nat) (x x':Value),xs[k]?=some x→fL[k]?=some x'→ax ρ x x')→
   (∀(k:Nat) (x x':Value),ys[k]?=some x→Bc[k]?=some x'→ax ρ x x')→ax ρ (.func (.func f) xs ys) (.func (.func f) fL Bc)
 | yield {i:Nat} {r:RI}:ρ i=some r→ax ρ (.func (.yield i) #[] #[]) (.func (.yield r.bw) #[] #[])
 | agg {xs fL:Array Value}:xs.size=fL.size→(∀x∈xs.toList,gK x=true)→(∀(k:Nat) (x x':Value),xs[k]?=some x→fL[k]?=some x'→ax ρ x x')→ax ρ (.agg xs) (.agg fL)
 | any (v:Value):ax ρ (.complex .f32 0 0) v
 | tuple {xs fL:Array Value}:xs.size=fL.size→(∀(k:Nat) (x x':Value),xs[k]?=some x→fL[k]?=some x'→ax ρ x x')→ax ρ (.tuple xs) (.tuple fL)
def aK.le (ρ av:aK):Prop:=∀i r,ρ i=some r→av i=some r
theorem aK.le.refl (ρ:aK):ρ.le ρ:=fun _ _ h=>h
theorem aK.le.trans {a b c:aK} (h:a.le b) (k:b.le c):a.le c:=fun i r e=>k i r (h i r e)
theorem ax.mono {ρ av:aK} (h:ρ.le av) {v v':Value} (hv:ax ρ v v'):ax av v v':=by
 induction hv with
 | bool b=>exact .bool b
 | int k n=>exact .int k n
 | string s=>exact .string s
 | uR=>exact .uR
 | rl=>exact .rl
 | uQ=>exact .uQ
 | nilFunc=>exact .nilFunc
 | nilIface=>exact .nilIface
 | ptr hi=>exact .ptr (h _ _ hi)
 | slice hi a b c d=>exact .slice (h _ _ hi) a b c d
 | void a=>exact .void a
 | map hi=>exact .map (h _ _ hi)
 | func f a b _ _ Aq Cu=>exact .func f a b (fun k x x' e e'=>Aq k x x' e e') (fun k x x' e e'=>Cu k x x' e e')
 | yield hi=>exact .yield (h _ _ hi)
 | agg a b _ ih=>exact .agg a b (fun k x x' e e'=>ih k x x' e e')
 | any v=>exact .any v
 | tuple a _ ih=>exact .tuple a (fun k x x' e e'=>ih k x x' e e')
theorem ax.undef (ρ:aK):ax ρ undef undef:=.tuple rfl (fun k x x' e e'=>by simp at e)
inductive bG (ρ:aK):List Value→List Value→Prop
 | nil:bG ρ [] []
 | cons {x y:Value} {xs ys:List Value}:ax ρ x y→bG ρ xs ys→bG ρ (x::xs) (y::ys)
theorem bG.mono {ρ av:aK} (h:ρ.le av) {xs ys:List Value} (hv:bG ρ xs ys):bG av xs ys:=by
 induction hv with
 | nil=>exact .nil
 | cons a _ ih=>exact .cons (a.mono h) ih
theorem bG.length {ρ:aK} {xs ys:List Value} (hv:bG ρ xs ys):xs.length=ys.length:=by
 induction hv with
 | nil=>rfl
 | cons _ _ ih=>simp [ih]
theorem bG.get {ρ:aK} {xs ys:List Value} (hv:bG ρ xs ys):∀{k:Nat} {x:Value},xs[k]?=some x→∃y,ys[k]?=some y∧ax ρ x y:=by
 induction hv with
 | nil=>intro k x h;simp at h
 | cons a _ ih=>
  intro k x h
  cases k with
  | zero=>simp at h;subst h;exact ⟨_,by simp,a⟩
  | succ k=>simp at h;obtain ⟨y,hy,hr⟩:=ih h;exact ⟨y,by simpa using hy,hr⟩
theorem bG.append {ρ:aK} {xs ys fL Bc:List Value} (h:bG ρ xs ys) (h':bG ρ fL Bc):bG ρ (xs++fL) (ys++Bc):=by
 induction h with
 | nil=>exact h'
 | cons a _ ih=>exact .cons a ih
theorem bG.Kx {ρ:aK}:∀{xs ys:List Value},xs.length=ys.length→(∀(k:Nat) (x y:Value),xs[k]?=some x→ys[k]?=some y→ax ρ x y)→bG ρ xs ys
 | [],[],_,_=>.nil
 | x::xs,y::ys,hl,h=>.cons (h 0 x y rfl rfl) (bG.Kx (by simpa using hl) fun k a b ha hb=>h (k+1) a b (by simpa using ha) (by simpa using hb))
theorem bG.take {ρ:aK} {xs ys:List Value} (h:bG ρ xs ys):∀n,bG ρ (xs.take n) (ys.take n):=by
 induction h with
 | nil=>intro n;simp;exact .nil
 | cons a _ ih=>intro n;cases n with
  | zero=>exact .nil
  | succ n=>exact .cons a (ih n)
theorem bG.drop {ρ:aK} {xs ys:List Value} (h:bG ρ xs ys):∀n,bG ρ (xs.drop n) (ys.drop n):=by
 induction h with
 | nil=>intro n;simp;exact .nil
 | cons a b ih=>intro n;cases n with
  | zero=>exact .cons a b
  | succ n=>exact ih n
theorem bG.set {ρ:aK} {xs ys:List Value} (h:bG ρ xs ys) {v v':Value} (hv:ax ρ v v'):∀n,bG ρ (xs.set n v) (ys.set n v'):=by
 induction h with
 | nil=>intro n;simp;exact .nil
 | cons a b ih=>intro n;cases n with
  | zero=>exact .cons hv b
  | succ n=>exact .cons a (ih n)
theorem bG.tR {ρ:aK} {xs fL:Array Value} (hs:xs.size=fL.size) (h:∀(k:Nat) (x x':Value),xs[k]?=some x→fL[k]?=some x'→ax ρ x x'):bG ρ xs.toList fL.toList:=
 bG.Kx (by simpa using hs) fun k x y hx hy=>h k x y (by simpa using hx) (by simpa using hy)
theorem bG.ofList {ρ:aK} {xs fL:List Value} (h:bG ρ xs fL):∀(k:Nat) (x x':Value),xs.toArray[k]?=some x→fL.toArray[k]?=some x'→ax ρ x x':=by
 intro k x x' hx bT
 obtain ⟨y,hy,hr⟩:=h.get (k:=k) (x:=x) (by simpa using hx)
 simp at bT
 rw [hy] at bT
 cases bT
 exact hr
theorem ax.Bx {ρ:aK} {xs fL:List Value} (h:bG ρ xs fL) (h1:∀x∈xs,gK x=true):ax ρ (.agg xs.toArray) (.agg fL.toArray):=.agg (by simpa using h.length) (by simpa using h1) h.ofList
theorem ax.sJ {ρ:aK} {xs fL:List Value} (h:bG ρ xs fL):ax ρ (.tuple xs.toArray) (.tuple fL.toArray):=.tuple (by simpa using h.length) h.ofList
def cW (v:Value):List Value:=v.cells.toList
def gr:Value→Bool
 | .tuple _ | .complex _ _ _=>false
 | _=>true
theorem ax.cells {ρ:aK} {v v':Value} (h:ax ρ v v') (hn:gr v=true):bG ρ (cW v) (cW v'):=by
 cases h with
 | any _=>simp [gr] at hn
 | agg hs _ h=>exact bG.tR hs h
 | bool b=>exact .cons (.bool b) .nil
 | int k n=>exact .cons (.int k n) .nil
 | string s=>exact .cons (.string s) .nil
 | uR=>exact .cons .uR .nil
 | rl=>exact .cons .rl .nil
 | uQ=>exact .cons .uQ .nil
 | nilFunc=>exact .cons .nilFunc .nil
 | nilIface=>exact .cons .nilIface .nil
 | ptr hi=>exact .cons (.ptr hi) .nil
 | slice hi a b c d=>exact .cons (.slice hi a b c d) .nil
 | void a=>exact .cons (.void a) .nil
 | map hi=>exact .cons (.map hi) .nil
 | func f a b c d=>exact .cons (.func f a b c d) .nil
 | yield hi=>exact .cons (.yield hi) .nil
 | tuple a b=>simp [gr] at hn
def fq (h:ae) (i:Nat):Prop:=∃o,h[i]?=some o∧o≠ .dead
def cF (h:ae) (i:Nat):Prop:=(∃e xs,h[i]?=some (.arr e xs))∨(∃es,h[i]?=some (.smap es))∨(∃c ls vs,h[i]?=some (.loop c ls vs))∨(∃kd es,h[i]?=some (.fm kd es))∨(∃g c es,h[i]?=some (.cU g c es))∨(∃m s n l,h[i]?=some (.iter m s n l))
theorem cF.live {h:ae} {i:Nat} (hm:cF h i):fq h i:=by
 rcases hm with ⟨e,xs,hm⟩ | ⟨es,hm⟩ | ⟨c,ls,vs,hm⟩ | ⟨kd,es,hm⟩ | ⟨g,c,es,hm⟩ | ⟨m,s,n,l,hm⟩
 ·exact ⟨_,hm,by simp⟩
 ·exact ⟨_,hm,by simp⟩
 ·exact ⟨_,hm,by simp⟩
 ·exact ⟨_,hm,by simp⟩
 ·exact ⟨_,hm,by simp⟩
 ·exact ⟨_,hm,by simp⟩
def gv (ρ:aK) (c:Array Value) (sh:Nat) (xs:List Value):Prop:=∀(j:Nat) (x:Value),xs[j]?=some x→gK x=true∧∃y,c[sh+j]?=some y∧ax ρ x y
theorem ax.FA {ρ:aK} {v v':Value} (h:ax ρ v v') (hc:gK v=true):v'.oneCell'=true:=by
 cases h <;> first | rfl | simp [gK] at hc
theorem bG.FA {ρ:aK} {xs ys:List Value} (h:bG ρ xs ys) (h1:∀x∈xs,gK x=true):∀y∈ys,y.oneCell'=true:=by
 induction h with
 | nil=>intro y hy;simp at hy
 | cons a _ ih=>
  intro y hy
  rcases List.mem_cons.1 hy with rfl | hy
  ·exact a.FA (h1 _ (by simp))
  ·exact ih (fun x hx=>h1 x (by simp [hx])) y hy
theorem ax.IA {ρ:aK} {v v':Value} (h:ax ρ v v') (ht:gr v=true):∀x∈cW v,gK x=true:=by
 cases h with
 | agg hs h1 h=>exact h1
 | tuple _ _=>simp [gr] at ht
 | any _=>simp [gr] at ht
 | _=>intro x hx;simp [cW,Value.cells] at hx;subst hx;rfl
theorem gv.of {ρ:aK} {xs:List Value} {c:Array Value} (h:bG ρ xs c.toList) (h1:∀x∈xs,gK x=true):gv ρ c 0 xs:=by
 intro j x hj
 obtain ⟨y,hy,hr⟩:=h.get hj
 exact ⟨h1 x (mem_of_getElem? hj),y,by simpa using hy,hr⟩
def lM (ρ:aK) (w:World) (r:RI):aj→Prop
 | .ro e xs=>r.elem=e∧∃c t fr,w.heap[r.bw]?=some (.cells c t fr)∧c.size=r.size∧gv ρ c r.sh xs
 | .arr e xs=>r.elem=e∧r.sh=0∧∃c,w.heap[r.bw]?=some (.cells c e (0,0))∧c.size=r.size∧gv ρ c 0 xs
 | .smap es=>∃aJ clock,w.heap[r.bw]?=some (.map aJ clock)∧aJ.size=es.length∧
   ∀(j:Nat) (k:ByteArray) (v:Value),es[j]?=some (k,v)→∃en,aJ[j]?=some en∧en.key=.string k∧ax ρ v en.val
 | .fm kd es=>∃aJ clock,w.heap[r.bw]?=some (.map aJ clock)∧aJ.size=es.length∧
   ∀(j:Nat) (k:Int) (v:Value),es[j]?=some (k,v)→∃en,aJ[j]?=some en∧en.key=.int kd k∧ax ρ v en.val
 | .cU g clock es=>(es.map fun e=>e.2.1).Nodup∧∃aJ,w.heap[r.bw]?=some (.map aJ clock)∧aJ.size=es.length∧
   ∀(j b:Nat) (k v:Value),es[j]?=some (b,k,v)→fz g k=true∧∃en,aJ[j]?=some en∧en.key=k∧en.born=b∧ax ρ v en.val
 | .iter m kG seen last=>r.sh=0∧∃rm,ρ m=some rm∧w.heap[r.bw]?=some (.mapIter (some rm.bw) kG seen.toArray last)
 | .loop c ls vs=>∃rec,w.heap[r.bw]?=some (.loop rec)∧rec.state=.ready∧rec.pending=none∧rec.assign=c.ky∧rec.body=c.body∧rec.params=c.ps∧rec.tmps.size=c.N∧
   ∀t,ax ρ (kF ls vs t) (rec.tmps.getD t Go.undef)
 | .dead=>True
structure a9 (P:Program) (ρ:aK) (h:ae) (w:World):Prop where
 obj:∀i r,ρ i=some r→∃o,h[i]?=some o∧lM ρ w r o
 inj:∀i j r s,ρ i=some r→ρ j=some s→r.bw=s.bw→cF h i→fq h j→i=j
 aY:∀i r,ρ i=some r→r.aY=P.cellsOf r.elem
theorem a9.lt {P:Program} {ρ:aK} {h:ae} {w:World} (H:a9 P ρ h w) {i:Nat} {r:RI} (hi:ρ i=some r):i<h.length:=by
 obtain ⟨o,ho,_⟩:=H.obj i r hi
 exact (bL ho).1
structure Tr (ρ:aK) (h:ae) (w:World) (av:aK) (h':ae) (w':World):Prop where
 ext:ρ.le av
 len:h.length≤h'.length
 jQ:∀i r,ρ i=some r→i<h.length
 kinds:∀i,i<h.length→cF h' i→cF h i
 fresh:∀i r,av i=some r→ρ i=none→h.length≤i∧(w.heap.size≤r.bw∨∃j s,ρ j=some s∧s.bw=r.bw∧cF h j)
 ji:w.heap.size≤w'.heap.size
 iK:∀b,b<w.heap.size→(∀j s,ρ j=some s→s.bw=b→¬cF h j)→w'.heap[b]?=w.heap[b]?
 os:w'.os=w.os
 tape:w'.tape=w.tape
 output:w'.output=w.output
theorem Tr.refl {P:Program} {ρ:aK} {h:ae} {w:World} (H:a9 P ρ h w):Tr ρ h w ρ h w where
 ext:=.refl _
 len:=le_refl _
 jQ:=fun _ _ hi=>H.lt hi
 kinds:=fun _ _ h=>h
 fresh:=fun i r h1 h2=>by rw [h1] at h2;cases h2
 ji:=le_refl _
 iK:=fun _ _ _=>rfl
 os:=rfl
 tape:=rfl
 output:=rfl
theorem Tr.trans {nJ W5 anZ:aK} {h₁ afE JW:ae} {oU Mg anR:World} (a:Tr nJ h₁ oU W5 afE Mg) (b:Tr W5 afE Mg anZ JW anR):Tr nJ h₁ oU anZ JW anR where
 ext:=a.ext.trans b.ext
 len:=le_trans a.len b.len
 jQ:=a.jQ
 kinds:=fun i hi hm=>a.kinds i hi (b.kinds i (Nat.lt_of_lt_of_le hi a.len) hm)
 fresh:=by
  intro i r h3 h1
  cases h2:W5 i with
  | some r2=>
   have:=b.ext i r2 h2
   rw [h3] at this
   cases this
   exact a.fresh i r h2 h1
  | none=>
   obtain ⟨hl,hb⟩:=b.fresh i r h3 h2
   refine ⟨le_trans a.len hl,?_⟩
   rcases hb with hb | ⟨j,s,hj,hs,hm⟩
   ·exact .inl (le_trans a.ji hb)
   ·cases vW:nJ j with
    | some s'=>
     have:=a.ext j s' vW
     rw [hj] at this
     cases this
     exact .inr ⟨j,s,vW,hs,a.kinds j (a.jQ j s vW) hm⟩
    | none=>
     obtain ⟨_,h⟩:=a.fresh j s hj vW
     rw [hs] at h
     rcases h with h | ⟨j',s',q1,q2,q3⟩
     ·exact .inl h
     ·exact .inr ⟨j',s',q1,q2,q3⟩
 ji:=le_trans a.ji b.ji
 iK:=by
  intro k hk dh
  rw [b.iK k (Nat.lt_of_lt_of_le hk a.ji) ?_,a.iK k hk dh]
  intro j s hj hs hm
  cases vW:nJ j with
  | some s'=>
   have:=a.ext j s' vW
   rw [hj] at this
   cases this
   exact dh j s vW hs (a.kinds j (a.jQ j s vW) hm)
  | none=>
   obtain ⟨_,h⟩:=a.fresh j s hj vW
   rcases h with h | ⟨j',s',q1,q2,q3⟩
   ·omega
   ·exact dh j' s' q1 (by omega) q3
 os:=b.os.trans a.os
 tape:=b.tape.trans a.tape
 output:=b.output.trans a.output
theorem a9.drew {P:Program} {ρ:aK} {h:ae} {w:World} (H:a9 P ρ h w) (n:Nat):a9 P ρ h { w with drawn:=n }:=
 ⟨fun i r hi=>let ⟨o,ho,hr⟩:=H.obj i r hi;⟨o,ho,by cases o <;> exact hr⟩,H.inj,H.aY⟩
theorem Tr.drew {P:Program} {ρ:aK} {h:ae} {w:World} (H:a9 P ρ h w) (n:Nat):Tr ρ h w ρ h { w with drawn:=n } where
 ext:=.refl _
 len:=le_refl _
 jQ:=fun _ _ hi=>H.lt hi
 kinds:=fun _ _ h=>h
 fresh:=fun i r h1 h2=>by rw [h1] at h2;cases h2
 ji:=le_refl _
 iK:=fun _ _ _=>rfl
 os:=rfl
 tape:=rfl
 output:=rfl
def mark (D:Nat):Deferred:={ target:=.collected D,args:=#[] }
def marks (B:Nat):List Deferred→World→Prop
 | [],w=>B≤w.heap.size
 | d::ds,w=>(∃D,d=mark D∧B≤D∧w.heap[D]?=some (.deferred (some []))∧∀d'∈ds,d'≠mark D)∧marks B ds w
theorem a9.TN {P:Program} {ρ:aK} {h:ae} {w:World} (H:a9 P ρ h w) {D:Nat} {x:Option (List Deferred)} (hD:w.heap[D]?=some (.deferred x)) {j:Nat} {s:RI} (hj:ρ j=some s) (hs:s.bw=D):¬fq h j:=by
 rintro ⟨o,ho,bp⟩
 obtain ⟨o',dS,hr⟩:=H.obj j s hj
 rw [ho] at dS
 cases dS
 subst hs
 cases o with
 | ro e xs=>obtain ⟨_,c,_,fr,h2,_⟩:=hr;rw [hD] at h2;cases h2
 | arr e xs=>obtain ⟨_,_,c,h2,_⟩:=hr;rw [hD] at h2;cases h2
 | smap es=>obtain ⟨aJ,clock,h1,_⟩:=hr;rw [hD] at h1;cases h1
 | fm kd es=>obtain ⟨aJ,clock,h1,_⟩:=hr;rw [hD] at h1;cases h1
 | cU g c es=>obtain ⟨_,aJ,h1,_⟩:=hr;rw [hD] at h1;cases h1
 | iter m s n l=>obtain ⟨_,rm,_,h1⟩:=hr;rw [hD] at h1;cases h1
 | loop c ls vs=>obtain ⟨rec,h1,_⟩:=hr;rw [hD] at h1;cases h1
 | dead=>exact bp rfl
theorem marks.tr {P:Program} {ρ av:aK} {h h':ae} {w w':World} (H:a9 P ρ h w) (T:Tr ρ h w av h' w') {B:Nat}:∀{ds:List Deferred},marks B ds w→marks B ds w'
 | [],hb=>le_trans hb T.ji
 | d::ds,⟨⟨D,h1,h2,h3,h4⟩,h5⟩=>
  ⟨⟨D,h1,h2,by rw [T.iK D (Array.getElem?_eq_some_iff.1 h3).1 fun j s hj hs hm=>H.TN h3 hj hs hm.live];exact h3,h4⟩,marks.tr H T h5⟩
theorem marks.lt {B:Nat} {w:World}:∀{ds:List Deferred},marks B ds w→∀d∈ds,∃D,d=mark D∧D<w.heap.size
 | [],_,d,hd=>by simp at hd
 | d::ds,⟨⟨D,h1,h2,h3,h4⟩,h5⟩,d',hd=>by
  rcases List.mem_cons.1 hd with rfl | hd
  ·exact ⟨D,h1,(Array.getElem?_eq_some_iff.1 h3).1⟩
  ·exact marks.lt h5 d' hd
theorem marks.base {B:Nat} {w:World}:∀{ds:List Deferred},marks B ds w→B≤w.heap.size
 | [],h=>h
 | _::_,h=>marks.base h.2
theorem agI {a b:Nat} (h:mark a=mark b):a=b:=by
 simp [mark] at h
 exact h
structure eJ (P:Program) (N:Nat) (B:Nat) (ρ:aK) (f:Nat→Value) (h:ae) (a:Act) (w:World):Prop where
 size:a.tmps.size=N
 defers:marks B a.defers w
 tmp:∀t,ax ρ (f t) (a.tmps.getD t Go.undef)
 heap:a9 P ρ h w
def yy (f:Nat→Value) (t:Nat) (v:Value):Nat→Value:=fun j=>match Nat.beq j t with | true=>v | false=>f j
theorem tS (f:Nat→Value) (t:Nat) (v:Value):yy f t v=fun j=>if j=t then v else f j:=by
 funext j
 unfold yy
 split
 ·rename_i h;rw [if_pos (Nat.eq_of_beq_eq_true h)]
 ·rename_i h;rw [if_neg (Nat.ne_of_beq_eq_false h)]
def ev (f:Nat→Value):Operand→Value
 | .tmp t=>f t
 | .const v=>v
 | .global g=>.pointer (some ⟨g,0,none⟩)
 | .func f=>.func (.func f) #[] #[]
def mL:Value→Bool
 | .bool _ | .int .. | .string _ | .nilFunc | .nilIface=>true
 | .pointer none | .map none=>true
 | .slice none 0 0=>true
 | _=>false
def jM:Operand→Bool
 | .tmp _=>true
 | .const v=>mL v
 | .global _=>false
 | .func _=>true
theorem mL.rel {ρ:aK} {v:Value} (h:mL v=true):ax ρ v v:=by
 unfold mL at h
 split at h
 ·exact .bool _
 ·exact .int _ _
 ·exact .string _
 ·exact .nilFunc
 ·exact .nilIface
 ·exact .uR
 ·exact .uQ
 ·exact .rl
 ·simp at h
theorem eJ.ev {P:Program} {N B:Nat} {ρ:aK} {f:Nat→Value} {h:ae} {a:Act} {w:World} (R:eJ P N B ρ f h a w) {x:Operand} (hx:jM x=true):
  ax ρ (ev f x) (a.eval x):=by
 cases x with
 | tmp t=>exact R.tmp t
 | const v=>exact mL.rel hx
 | global g=>simp [jM] at hx
 | func g=>exact .func g rfl rfl (fun k x x' e e'=>by simp at e) (fun k x x' e e'=>by simp at e)
theorem eJ.put {P:Program} {N B:Nat} {ρ av:aK} {f:Nat→Value} {h h':ae} {a:Act} {w w':World} (R:eJ P N B ρ f h a w) {d:Nat} (hd:d<N) {v v':Value}
  (T:Tr ρ h w av h' w') (hv:ax av v v') (H:a9 P av h' w'):eJ P N B av (yy f d v) h' (a.put (some d) v') w' where
 size:=by simp [Act.put,R.size]
 defers:=marks.tr R.heap T R.defers
 tmp:=by
  intro t
  simp only [tS]
  by_cases ht:t=d
  ·subst ht
   have:t<a.tmps.size:=by rw [R.size];exact hd
   simp [Act.put,Array.getD,this]
   exact hv
  ·rw [if_neg ht]
   have:=(R.tmp t).mono T.ext
   have e:((a.put (some d) v').tmps.getD t Go.undef)=a.tmps.getD t Go.undef:=by
    simp only [Act.put,Array.getD_eq_getD_getElem?,Array.getElem?_setIfInBounds]
    rw [if_neg (by omega)]
   rw [e]
   exact this
 heap:=H
theorem eJ.mono {P:Program} {N B:Nat} {ρ av:aK} {f:Nat→Value} {h h':ae} {a:Act} {w w':World} (R:eJ P N B ρ f h a w) (T:Tr ρ h w av h' w') (H:a9 P av h' w'):
  eJ P N B av f h' a w':=⟨R.size,marks.tr R.heap T R.defers,fun t=>(R.tmp t).mono T.ext,H⟩
end
section
def S (l:List UInt8):Value:=.string ⟨l.toArray⟩
def bytes (s:ByteArray):List UInt8:=s.data.toList
theorem arO (l:List UInt8):bytes ⟨l.toArray⟩=l:=by simp [bytes]
theorem Fq (s:ByteArray):(⟨(bytes s).toArray⟩:ByteArray)=s:=by simp [bytes]
inductive qC where
 | mv (x:Operand)
 | pick (c a b:Operand)
 | bin (op:BinOp) (x y:Operand)
 | I1 (neg:Bool) (x y:Operand)
 | I2 (neg:Bool) (x y:Operand)
 | un (op:UnOp) (x:Operand)
 | conv (k:IntKind) (x:Operand)
 | Wh (x:Operand)
 | Tn (x:Operand)
 | To (x:Operand)
 | Ke (n:Nat)
 | Fo (mx:Bool) (xs:List Operand)
 | S3 (x i:Operand)
 | SZ (n aY:Nat) (agg:Bool) (x i:Operand)
 | Pg (aY:Nat) (x i:Operand)
 | Pf (n aY:Nat) (x i:Operand)
 | QW (off:Nat) (x:Operand)
 | Q0 (agg:Bool) (off sz:Nat) (x:Operand)
 | LG (x:Operand) (lo hi:Option Operand)
 | LH (e:TypeId) (aY:Nat) (x:Operand) (lo hi:Option Operand)
 | TJ (x:Operand)
 | fn (f:FuncId) (first captured:List Operand)
 | ext (x:Operand) (i:Nat)
 | build (zero:List Value) (parts:List (Nat×Nat×Operand))
 | S0 (f:FuncId) (x c:Operand)
def hZ (op:BinOp) (k:IntKind) (a b:Int):Option Value:=
 match op with
 | .add=>some (.int k (k.wrap (a+b)))
 | .sub=>some (.int k (k.wrap (a-b)))
 | .mul=>some (.int k (k.wrap (a*b)))
 | .quo=>if b=0 then none else some (.int k (k.wrap (a.tdiv b)))
 | .rem=>if b=0 then none else some (.int k (a.tmod b))
 | .and=>some (.int k (k.wrap (BitVec.ofInt k.bits a &&& BitVec.ofInt k.bits b).toNat))
 | .or=>some (.int k (k.wrap (BitVec.ofInt k.bits a ||| BitVec.ofInt k.bits b).toNat))
 | .xor=>some (.int k (k.wrap (BitVec.ofInt k.bits a^^^BitVec.ofInt k.bits b).toNat))
 | .andNot=>some (.int k (k.wrap (BitVec.ofInt k.bits a &&& ~~~BitVec.ofInt k.bits b).toNat))
 | .eql=>some (.bool (decide (a=b)))
 | .neq=>some (.bool (!decide (a=b)))
 | .lss=>some (.bool (decide (a<b)))
 | .leq=>some (.bool (decide (a≤b)))
 | .gtr=>some (.bool (decide (b<a)))
 | .geq=>some (.bool (decide (b≤a)))
 | _=>none
def q8 (op:BinOp) (k:IntKind) (a b:Int):Option Value:=
 if b<0 then none else
 match op with
 | .shl=>some (.int k (k.wrap (a*2^(min b.toNat k.bits))))
 | .shr=>some (.int k (a.fdiv (2^(min b.toNat k.bits))))
 | _=>none
def yn (op:BinOp) (a b:List UInt8):Option Value:=
 match op with
 | .add=>if a.length+b.length≤maxLen then some (S (a++b)) else none
 | .eql=>some (.bool (decide (a=b)))
 | .neq=>some (.bool (!decide (a=b)))
 | .lss=>some (.bool (Op.bytesLess a b))
 | .leq=>some (.bool (Op.bytesLess a b||decide (a=b)))
 | .gtr=>some (.bool (!(Op.bytesLess a b||decide (a=b))))
 | .geq=>some (.bool (!Op.bytesLess a b))
 | _=>none
def ai (op:BinOp) (x y:Value):Option Value:=
 match x,y with
 | .int k a,.int k' b=>
  match op with
  | .shl=>q8 .shl k a b
  | .shr=>q8 .shr k a b
  | op=>if k=k' then hZ op k a b else none
 | .string s,.string t=>yn op (bytes s) (bytes t)
 | _,_=>none
def uJ (neg:Bool) (x y:Value):Option Value:=
 match x,y with
 | .bool a,.bool b=>some (.bool (if neg then !(a==b) else a==b))
 | _,_=>none
def J3:Value→Option Bool
 | .slice none 0 0=>some true
 | .slice (some _) _ _=>some false
 | _=>none
def SR (neg:Bool) (x y:Value):Option Value:=
 match J3 x,J3 y with
 | some a,some b=>if a||b then some (.bool (if neg then !(a&&b) else a&&b)) else none
 | _,_=>none
def gJ (op:UnOp) (x:Value):Option Value:=
 match op,x with
 | .neg,.int k n=>some (.int k (k.wrap (0-n)))
 | .not,.bool b=>some (.bool !b)
 | .xor,.int k n=>some (.int k (k.wrap (BitVec.ofInt k.bits (if k.signed then -1 else k.max)^^^BitVec.ofInt k.bits n).toNat))
 | _,_=>none
def dA (k:IntKind):Value→Option Value
 | .int _ n=>some (.int k (k.wrap n))
 | _=>none
def afF:Value→Option Value
 | .string s=>some (.string s)
 | _=>none
def gI:Value→Option Value
 | .string s=>some (.int .i64 (bytes s).length)
 | _=>none
def bj:Value→Option Value
 | .slice _ n _=>some (.int .i64 n)
 | _=>none
def max2 (mx:Bool):Value→Value→Option Value
 | .int k x,.int _ y=>some (.int k (if mx then (if y>x then y else x) else (if y<x then y else x)))
 | _,_=>none
def yl (mx:Bool):List Value→Option Value
 | .int k x::rest=>rest.foldlM (max2 mx) (.int k x)
 | _=>none
def j7 (x i:Value):Option Value:=
 match x,i with
 | .string s,.int _ i=>if 0≤i then ((bytes s)[i.toNat]?).map fun b=>.int .u8 b.toNat else none
 | _,_=>none
def b9 (agg:Bool) (off sz:Nat) (cs:List Value):Option Value:=
 if agg then (if off+sz≤cs.length then some (.agg ((cs.drop off).take sz).toArray) else none) else cs[off]?
def SU (n aY:Nat) (agg:Bool) (x i:Value):Option Value:=
 match x,i with
 | .agg cs,.int _ i=>if 0≤i∧i<n then b9 agg (i.toNat*aY) aY cs.toList else none
 | _,_=>none
def bf (aY:Nat) (x i:Value):Option Value:=
 match x,i with
 | .slice (some ⟨id,o,some _⟩) n _,.int _ i=>if 0≤i∧i<n then some (.pointer (some ⟨id,o+i.toNat*aY,none⟩)) else none
 | _,_=>none
def ma (n aY:Nat) (x i:Value):Option Value:=
 match x,i with
 | .pointer (some ⟨id,o,none⟩),.int _ i=>if 0≤i∧i<n then some (.pointer (some ⟨id,o+i.toNat*aY,none⟩)) else none
 | _,_=>none
def aL (off:Nat) (x:Value):Option Value:=
 match x with
 | .pointer (some ⟨id,o,none⟩)=>some (.pointer (some ⟨id,o+off,none⟩))
 | _=>none
def An (agg:Bool) (off sz:Nat) (x:Value):Option Value:=
 match x with
 | .agg cs=>b9 agg off sz cs.toList
 | _=>none
def tJ:Value→Option Nat
 | .int _ i=>if 0≤i then some i.toNat else none
 | _=>none
def sw (n:Nat) (lo hi:Option Value):Option (Nat×Nat):=
 match (match lo with | none=>some 0 | some v=>tJ v),(match hi with | none=>some n | some v=>tJ v) with
 | some l,some h=>if l≤h∧h≤n then some (l,h) else none
 | _,_=>none
def lK (x:Value) (lo hi:Option Value):Option Value:=
 match x with
 | .string s=>(sw (bytes s).length lo hi).map fun (l,h)=>S (((bytes s).take h).drop l)
 | _=>none
def mT (e:TypeId) (aY:Nat) (x:Value) (lo hi:Option Value):Option Value:=
 match x with
 | .slice none 0 0=>(sw 0 lo hi).map fun _=>.slice none 0 0
 | .slice (some ⟨id,o,some e'⟩) n _=>
  if e'=e then (sw n lo hi).map fun (l,h)=>.slice (some ⟨id,o+l*aY,some e⟩) (h-l) (h-l) else none
 | _=>none
def ym (x:Value):Option Value:=
 match x with
 | .pointer (some a)=>some (.pointer (some a))
 | .func f a b=>some (.func f a b)
 | _=>none
def cg (i:Nat) (x:Value):Option Value:=
 match x with
 | .tuple vs=>vs[i]?
 | _=>none
def setAt (xs:List Value) (o:Nat) (vs:List Value):List Value:=xs.take o++vs++xs.drop (o+vs.length)
def rQ:List Value→List (Nat×Nat×Value)→Option (List Value)
 | xs,[]=>some xs
 | xs,(off,size,v)::rest=>
  if gr v∧(cW v).length=size∧off+size≤xs.length then rQ (setAt xs off (cW v)) rest else none
def dd (zero:List Value) (parts:List (Nat×Nat×Value)):Option Value:=(rQ zero parts).map fun cs=>.agg cs.toArray
def bQ (c a b:Value):Option Value:=
 match c with
 | .bool t=>some (if t then a else b)
 | _=>none
def E5 (x c:Value):Option Value:=
 match x,c with
 | .string s,.int .u8 c=>some (.int .i64 (Lib.indexByte (bytes s) c.toNat.toUInt8))
 | _,_=>none
def jK (o:qC) (g:Operand→Value):Option Value:=
 match o with
 | .mv x=>some (g x)
 | .pick c a b=>bQ (g c) (g a) (g b)
 | .bin op x y=>ai op (g x) (g y)
 | .I1 neg x y=>uJ neg (g x) (g y)
 | .I2 neg x y=>SR neg (g x) (g y)
 | .un op x=>gJ op (g x)
 | .conv k x=>dA k (g x)
 | .Wh x=>afF (g x)
 | .Tn x=>gI (g x)
 | .To x=>bj (g x)
 | .Ke n=>some (.int .i64 n)
 | .Fo mx xs=>yl mx (xs.map g)
 | .S3 x i=>j7 (g x) (g i)
 | .SZ n aY agg x i=>SU n aY agg (g x) (g i)
 | .Pg aY x i=>bf aY (g x) (g i)
 | .Pf n aY x i=>ma n aY (g x) (g i)
 | .QW off x=>aL off (g x)
 | .Q0 agg off sz x=>An agg off sz (g x)
 | .LG x lo hi=>lK (g x) (lo.map g) (hi.map g)
 | .LH e aY x lo hi=>mT e aY (g x) (lo.map g) (hi.map g)
 | .TJ x=>ym (g x)
 | .fn f first captured=>some (.func (.func f) (first.map g).toArray (captured.map g).toArray)
 | .ext x i=>cg i (g x)
 | .build zero parts=>dd zero (parts.map fun (o,s,x)=>(o,s,g x))
 | .S0 f x c=>
  match g (.func f) with
  | .func (.func f') a b=>if f'=f∧a.size=0∧b.size=0 then E5 (g x) (g c) else none
  | _=>none
def oO:TypeDesc→Bool
 | .struct _ | .array _ _=>true
 | _=>false
def BD (v:Value):Bool:=mL v&&gK v
def zeroOf (P:Program) (t:TypeId):Option (List Value):=
 match P.info? t with
 | some i=>match i.zero with
  | some z=>if gr z&&(cW z).all BD&&(cW z).length==i.size then some (cW z) else none
  | none=>none
 | none=>none
def placesOf (P:Program) (fs:Array Field):List (Nat×Nat):=fs.toList.map fun f=>(f.offset,P.cellsOf f.type)
def jd (P:Program) (t:TypeId):Bool:=(P.info? t).isSome
def QP (P:Program) (f:FuncId):Bool:=
 match P.funcs[f]? with
 | some fn=>fn.body.isNone&&fn.name== "internal/bytealg.IndexByteString" &&(Extern.findNext fn).isNone
 | none=>false
def jq (P:Program):Op→Option qC
 | .move x | .assign x=>some (.mv x)
 | .pick c a b=>some (.pick c a b)
 | .binOp op t x y _=>
  match op,P.underlying t with
  | .eql,some .bool=>some (.I1 false x y)
  | .neq,some .bool=>some (.I1 true x y)
  | .eql,some (.slice _)=>some (.I2 false x y)
  | .neq,some (.slice _)=>some (.I2 true x y)
  | op,_=>some (.bin op x y)
 | .unOp op _ x=>some (.un op x)
 | .convert s d x=>
  match P.underlying s,P.underlying d with
  | some (.int _),some (.int k)=>some (.conv k x)
  | some .string,some .string=>some (.Wh x)
  | _,_=>none
 | .call { callee:=.builtin .len,args,argTypes }=>
  match args.toList,argTypes.toList with
  | [x],[t]=>
   match P.underlying t with
   | some .string=>some (.Tn x)
   | some (.slice _)=>some (.To x)
   | some (.array n _)=>some (.Ke n)
   | _=>none
  | _,_=>none
 | .call { callee:=.builtin .min,args,argTypes:=_ }=>some (.Fo false args.toList)
 | .call { callee:=.builtin .max,args,argTypes:=_ }=>some (.Fo true args.toList)
 | .call { callee:=.value (.func f),args,argTypes:=_ }=>
  match args.toList with
  | [x,c]=>if QP P f then some (.S0 f x c) else none
  | _=>none
 | .index t x i=>
  match P.underlying t with
  | some .string=>some (.S3 x i)
  | some (.array n e)=>
   match P.underlying e with
   | some d=>if jd P e&&(oO d||P.cellsOf e==1) then some (.SZ n (P.cellsOf e) (oO d) x i) else none
   | none=>none
  | _=>none
 | .indexAddr t x i=>
  match P.underlying t with
  | some (.slice e)=>if jd P e then some (.Pg (P.cellsOf e) x i) else none
  | some (.array n e)=>if jd P e then some (.Pf n (P.cellsOf e) x i) else none
  | _=>none
 | .fieldAddr t x f=>
  match P.underlying t with
  | some (.struct fs)=>
   match fs[f]? with
   | some fd=>if jd P fd.type&&P.cellsOf fd.type != 0 then some (.QW fd.offset x) else none
   | none=>none
  | _=>none
 | .field t x f=>
  match P.underlying t with
  | some (.struct fs)=>
   match fs[f]? with
   | some fd=>
    match P.underlying fd.type with
    | some d=>if jd P fd.type&&(oO d||P.cellsOf fd.type==1) then some (.Q0 (oO d) fd.offset (P.cellsOf fd.type) x) else none
    | none=>none
   | none=>none
  | _=>none
 | .slice t x lo hi mx=>
  match P.underlying t,mx with
  | some .string,none=>some (.LG x lo hi)
  | some (.slice e),none=>if jd P e then some (.LH e (P.cellsOf e) x lo hi) else none
  | _,_=>none
 | .nilCheck x=>some (.TJ x)
 | .makeFunc (.func f) first captured=>some (.fn f first.toList captured.toList)
 | .extract x i=>some (.ext x i)
 | .build t parts=>
  match P.underlying t,zeroOf P t with
  | some (.struct fs),some z=>
   if fs.all fun f=>jd P f.type then
    match parts.toList.mapM (m:=Option) fun (i,x)=>(placesOf P fs)[i]? |>.map fun (o,s)=>(o,s,x) with
    | some ps=>some (.build z ps)
    | none=>none
   else none
  | some (.array _ e),some z=>if jd P e then some (.build z (parts.toList.map fun (i,x)=>(i*P.cellsOf e,P.cellsOf e,x))) else none
  | _,_=>none
 | _=>none
end
section
theorem ax.mU {ρ:aK} {k:IntKind} {n:Int} {v:Value} (h:ax ρ (.int k n) v):v=.int k n:=by cases h;rfl
theorem ax.yV {ρ:aK} {b:Bool} {v:Value} (h:ax ρ (.bool b) v):v=.bool b:=by cases h;rfl
theorem ax.wY {ρ:aK} {s:ByteArray} {v:Value} (h:ax ρ (.string s) v):v=.string s:=by cases h;rfl
theorem ax.S (ρ:aK) (l:List UInt8):ax ρ (S l) (S l):=.string _
theorem toList_eq (s:ByteArray):s.toList=bytes s:=by
 obtain ⟨⟨l⟩⟩:=s
 exact ByteArray.toList_mk l
theorem arN (s t:ByteArray):(s.toList==t.toList)=decide (bytes s=bytes t):=by
 rw [toList_eq,toList_eq]
 by_cases h:bytes s=bytes t <;> simp [h]
theorem F6 (s:ByteArray):s.size=(bytes s).length:=by simp [bytes]
theorem arF (s t:ByteArray):s++t=⟨(bytes s++bytes t).toArray⟩:=by
 apply ByteArray.ext
 apply ext'
 simp [bytes]
section
variable (P : Program) (w : World)
theorem aEY {op:BinOp} {k:IntKind} {a b:Int} {v:Value} (t:TypeId) (de:op≠ .shl) (axX:op≠ .shr) (h:hZ op k a b=some v):
  (binOp op t (.int k a) (.int k b)).run P w=.ok v w:=by
 cases op <;> simp [hZ] at h <;> simp at de axX <;> (first | subst h | (obtain ⟨hb,h⟩:=h;subst h)) <;>
  simp_all [binOp,Op.intArith,Op.intDiv,Op.intBits,Op.intCmp]
 ·rw [Bool.eq_iff_iff];simp
 ·rw [Bool.eq_iff_iff];simp
theorem am8 {op:BinOp} {k k':IntKind} {a b:Int} {v:Value} (t:TypeId) (de:op=.shl∨op=.shr) (h:q8 op k a b=some v):
  (binOp op t (.int k a) (.int k' b)).run P w=.ok v w:=by
 unfold q8 at h
 by_cases hb:b<0
 ·rw [if_pos hb] at h;cases h
 ·rw [if_neg hb] at h
  rcases de with rfl | rfl <;> simp at h <;> subst h <;> simp [binOp,Op.shift,hb]
theorem aFc {op:BinOp} {s s':ByteArray} {v:Value} (t:TypeId) (h:yn op (bytes s) (bytes s')=some v):
  (binOp op t (.string s) (.string s')).run P w=.ok v w:=by
 have e1:=arN s s'
 have hl:IntKind.i64.max=9223372036854775807:=rfl
 cases op <;> simp [yn] at h <;> (first | subst h | (obtain ⟨hb,h⟩:=h;subst h)) <;> simp only [binOp,Op.stringOp]
 all_goals first
  | (rw [e1];simp [toList_eq];done)
  | (simp [toList_eq];done)
  | skip
 ·unfold maxLen at hb
  rw [if_neg (by rw [hl,F6,F6];omega)]
  rw [arF]
  rfl
theorem aEE (op:BinOp) (t:TypeId) (x y:Operand) (k k':IntKind) (a b:Int):(eqGuard op t x y (.int k a) (.int k' b)).run P w=.ok () w:=by
 unfold eqGuard
 cases op <;> simp
theorem aEG (op:BinOp) (t:TypeId) (x y:Operand) (a b:ByteArray):(eqGuard op t x y (.string a) (.string b)).run P w=.ok () w:=by
 unfold eqGuard
 cases op <;> simp
theorem aED (op:BinOp) (t:TypeId) (x y:Operand) (a b:Bool):(eqGuard op t x y (.bool a) (.bool b)).run P w=.ok () w:=by
 unfold eqGuard
 cases op <;> simp
theorem aEF (op:BinOp) (t:TypeId) (x y:Operand) (a b:Option Addr) (n m c d:Nat):(eqGuard op t x y (.slice a n c) (.slice b m d)).run P w=.ok () w:=by
 unfold eqGuard
 cases op <;> simp
theorem aEM {ρ:aK} {op:BinOp} {x y x' y' v:Value} (t:TypeId) (ox oy:Operand) (h:ai op x y=some v) (hx:ax ρ x x') (hy:ax ρ y y'):
  (do eqGuard op t ox oy x' y';binOp op t x' y':Sem Value).run P w=.ok v w∧ax ρ v v:=by
 unfold ai at h
 split at h
 ·rename_i k a k' b
  rw [hx.mU,hy.mU]
  have hv:(binOp op t (.int k a) (.int k' b)).run P w=.ok v w∧ax ρ v v:=by
   split at h
   ·refine ⟨am8 P w t (.inl rfl) h,?_⟩
    unfold q8 at h
    split at h <;> simp at h
    subst h;exact .int _ _
   ·refine ⟨am8 P w t (.inr rfl) h,?_⟩
    unfold q8 at h
    split at h <;> simp at h
    subst h;exact .int _ _
   ·rename_i h1 h2
    split at h
    ·rename_i hk
     subst hk
     refine ⟨aEY P w t h1 h2 h,?_⟩
     cases op <;> simp [hZ] at h <;> (first | subst h | (obtain ⟨_,h⟩:=h;subst h)) <;> first | exact .int _ _ | exact .bool _
    ·cases h
  simp only [Sem.run_bind,aEE,Result.andThen_ok]
  exact hv
 ·rename_i s s'
  rw [hx.wY,hy.wY]
  simp only [Sem.run_bind,aEG,Result.andThen_ok]
  refine ⟨aFc P w t h,?_⟩
  cases op <;> simp [yn] at h <;> (first | subst h | (obtain ⟨_,h⟩:=h;subst h)) <;> first | exact .string _ | exact .bool _
 ·cases h
theorem am1 {ρ:aK} {neg:Bool} {op:BinOp} {x y x' y' v:Value} (t:TypeId) (ox oy:Operand) (ht:P.underlying t=some .bool) (de:op=if neg then .neq else .eql)
  (h:uJ neg x y=some v) (hx:ax ρ x x') (hy:ax ρ y y'):
  (do eqGuard op t ox oy x' y';binOp op t x' y':Sem Value).run P w=.ok v w∧ax ρ v v:=by
 unfold uJ at h
 split at h
 ·rename_i a b
  rw [hx.yV,hy.yV]
  simp only [Sem.run_bind,aED,Result.andThen_ok]
  simp at h
  subst h
  refine ⟨?_,.bool _⟩
  cases neg <;> simp at de <;> subst de
  ·exact run_eql_bool w t a b ht
  ·exact run_neq_bool w t a b ht
 ·cases h
theorem am2 {ρ:aK} {neg:Bool} {op:BinOp} {x y x' y' v:Value} {e:TypeId} (t:TypeId) (ox oy:Operand) (ht:P.underlying t=some (.slice e)) (de:op=if neg then .neq else .eql)
  (h:SR neg x y=some v) (hx:ax ρ x x') (hy:ax ρ y y'):
  (do eqGuard op t ox oy x' y';binOp op t x' y':Sem Value).run P w=.ok v w∧ax ρ v v:=by
 unfold SR at h
 split at h
 ·rename_i a b ha hb
  split at h
  ·rename_i iD
   simp at h
   subst h
   refine ⟨?_,.bool _⟩
   cases hx <;> simp [J3] at ha <;> cases hy <;> simp [J3] at hb <;> subst ha <;> subst hb <;> simp at iD
   all_goals
    simp only [Sem.run_bind,aEF,Result.andThen_ok]
    cases neg <;> simp at de <;> subst de <;> simp only [Lib.run_eql_slice_nil w t e _ _ _ _ _ ht,run_neq_slice_nil_any w t e _ _ _ _ _ ht,run_eql_nil_slice w t e _ _ _ _ _ ht,run_neq_nil_slice w t e _ _ _ _ _ ht] <;> simp
  ·cases h
 ·cases h
theorem aFd {ρ:aK} {op:UnOp} {x x' v:Value} (h:gJ op x=some v) (hx:ax ρ x x'):(Op.unary op x').run P w=.ok v w∧ax ρ v v:=by
 unfold gJ at h
 split at h
 ·rw [hx.mU];simp at h;subst h;exact ⟨by simp [Op.unary,Op.intArith],.int _ _⟩
 ·rw [hx.yV];simp at h;subst h;exact ⟨by simp [Op.unary],.bool _⟩
 ·rw [hx.mU];simp only [Option.some.injEq] at h;subst h;exact ⟨rfl,.int _ _⟩
 ·cases h
end
end
section
section
variable {P : Program} (w : World)
theorem ayU {t:TypeId} (h:jd P t=true):∃i,P.info? t=some i:=by
 unfold jd at h
 exact Option.isSome_iff_exists.1 h
theorem rB {t:TypeId} (h:jd P t=true):(sizeOf t).run P w=.ok (P.cellsOf t) w:=by
 obtain ⟨i,hi⟩:=ayU h
 exact run_sizeOf w hi
theorem V4 {t:TypeId} {d:TypeDesc} (h:P.underlying t=some d):(isAgg t).run P w=.ok (oO d) w:=by
 cases d <;> simp [isAgg,run_underlying h,oO]
theorem az9 {mx:Bool} {k:IntKind} {x:Int} {y v:Value} (h:max2 mx (.int k x) y=some v):∃k' b,y=.int k' b∧∃z,v=.int k z:=by
 unfold max2 at h
 split at h
 ·rename_i k2 x2 k3 y2 e
  cases e
  simp at h
  exact ⟨k3,y2,rfl,_,h.symm⟩
 ·cases h
theorem V5 {ρ:aK} {mx:Bool}:∀{xs fL:List Value} {k:IntKind} {x:Int} {v:Value},xs.foldlM (max2 mx) (.int k x)=some v→bG ρ xs fL→
  (fL.foldlM (if mx then Builtin.max2 else Builtin.min2) (.int k x):Sem Value).run P w=.ok v w∧ax ρ v v
 | [],fL,k,x,v,h,hs=>by
  cases hs
  simp at h
  subst h
  exact ⟨rfl,.int _ _⟩
 | y::xs,fL,k,x,v,h,hs=>by
  cases hs with
  | cons hy hs=>
   simp only [List.foldlM_cons,Option.bind_eq_bind,bind_eq_some_iff] at h
   obtain ⟨u,hu,h⟩:=h
   obtain ⟨k',b,rfl,z,rfl⟩:=az9 hu
   have ih:=V5 (ρ:=ρ) h hs
   refine ⟨?_,ih.2⟩
   rw [hy.mU]
   simp only [List.foldlM_cons,Sem.run_bind]
   simp only [max2,Option.some.injEq,Value.int.injEq,true_and] at hu
   cases mx
   ·simp at hu⊢
    simp only [Builtin.min2,Sem.run_pure,Result.andThen_ok,hu]
    simpa using ih.1
   ·simp at hu⊢
    simp only [Builtin.max2,Sem.run_pure,Result.andThen_ok,gt_iff_lt,hu]
    simpa using ih.1
theorem aEX {ρ:aK} {t:TypeId} {x i x' i' v:Value} (ht:P.underlying t=some .string) (h:j7 x i=some v) (hx:ax ρ x x') (hi:ax ρ i i'):
  (Instr.index t x' i').run P w=.ok v w∧ax ρ v v:=by
 unfold j7 at h
 split at h
 ·rename_i s k j
  rw [hx.wY,hi.mU]
  split at h
  ·rename_i h0
   simp only [map_eq_some_iff] at h
   obtain ⟨b,hb,rfl⟩:=h
   refine ⟨?_,.int _ _⟩
   have kR:s[j.toNat]?=some b:=by
    have aD:=(bL hb).1
    have:j.toNat<s.size:=by rw [F6];exact aD
    rw [getElem?_pos s j.toNat this]
    have e:=(bL hb).2
    simp only [bytes,Array.getElem_toList] at e
    rw [←e]
    rfl
   simp [Instr.index,asIntOf,run_underlying ht,h0,kR]
  ·cases h
 ·cases h
theorem ayG {ρ:aK} {agg:Bool} {off sz:Nat} {cs:List Value} {jH:Array Value} {v:Value} (h:b9 agg off sz cs=some v) (hs:bG ρ cs jH.toList) (h1:∀x∈cs,gK x=true):
  ∃v',(if agg then some (.agg (jH.extract off (off+sz))) else jH[off]?)=some v'∧ax ρ v v':=by
 unfold b9 at h
 cases agg
 ·simp at h⊢
  obtain ⟨y,hy,hr⟩:=hs.get h
  exact ⟨y,by simpa using hy,hr⟩
 ·simp at h⊢
  obtain ⟨hl,rfl⟩:=h
  have:=((hs.drop off).take sz)
  have e:(jH.extract off (off+sz))=((jH.toList.drop off).take sz).toArray:=by
   apply ext'
   simp [List.take_drop]
  rw [e]
  exact .Bx this (fun x hx=>h1 x (List.mem_of_mem_drop (List.mem_of_mem_take hx)))
theorem am7 {ρ:aK} {t:TypeId} {d:TypeDesc} {off:Nat} {cs:List Value} {jH:Array Value} {v:Value} (ht:P.underlying t=some d) (hk:jd P t=true)
  (h:b9 (oO d) off (P.cellsOf t) cs=some v) (hs:bG ρ cs jH.toList) (h1:∀x∈cs,gK x=true):
  ∃v',(part t jH off).run P w=.ok v' w∧ax ρ v v':=by
 obtain ⟨v',hv,hr⟩:=ayG h hs h1
 refine ⟨v',?_,hr⟩
 unfold part
 simp only [Sem.run_bind,V4 w ht,Result.andThen_ok]
 cases hd:oO d
 ·rw [hd] at hv
  simp at hv⊢
  rw [hv]
  rfl
 ·rw [hd] at hv
  simp at hv⊢
  simp only [rB w hk,Result.andThen_ok,hv]
theorem ax.Zq {ρ:aK} {cs:Array Value} {x':Value} (h:ax ρ (.agg cs) x'):∃jH,x'=.agg jH∧bG ρ cs.toList jH.toList∧∀x∈cs.toList,gK x=true:=by
 cases h with
 | agg hs h1 h=>exact ⟨_,rfl,bG.tR hs h,h1⟩
theorem aEW {ρ:aK} {t e:TypeId} {d:TypeDesc} {n:Nat} {x i x' i' v:Value} (ht:P.underlying t=some (.array n e)) (he:P.underlying e=some d) (hk:jd P e=true)
  (h:SU n (P.cellsOf e) (oO d) x i=some v) (hx:ax ρ x x') (hi:ax ρ i i'):
  ∃v',(Instr.index t x' i').run P w=.ok v' w∧ax ρ v v':=by
 unfold SU at h
 split at h
 ·rename_i cs k j
  obtain ⟨jH,rfl,hs,h1⟩:=hx.Zq
  rw [hi.mU]
  split at h
  ·rename_i h0
   obtain ⟨v',hr,hv⟩:=am7 w he hk h hs h1
   refine ⟨v',?_,hv⟩
   simp [Instr.index,asIntOf,run_underlying ht,h0,rB w hk,hr]
  ·cases h
 ·cases h
theorem aEV {ρ:aK} {t:TypeId} {fs:Array Field} {f:Nat} {fd:Field} {d:TypeDesc} {x x' v:Value} (ht:P.underlying t=some (.struct fs)) (hf:fs[f]?=some fd) (he:P.underlying fd.type=some d)
  (hk:jd P fd.type=true) (h:An (oO d) fd.offset (P.cellsOf fd.type) x=some v) (hx:ax ρ x x'):
  ∃v',(Instr.field t x' f).run P w=.ok v' w∧ax ρ v v':=by
 unfold An at h
 split at h
 ·rename_i cs
  obtain ⟨jH,rfl,hs,h1⟩:=hx.Zq
  obtain ⟨v',hr,hv⟩:=am7 w he hk h hs h1
  refine ⟨v',?_,hv⟩
  simp [Instr.field,run_underlying ht,hf,asAgg,hr]
 ·cases h
theorem aEI {ρ:aK} {t e:TypeId} {x i x' i' v:Value} (ht:P.underlying t=some (.slice e)) (hk:jd P e=true)
  (h:bf (P.cellsOf e) x i=some v) (hx:ax ρ x x') (hi:ax ρ i i'):
  ∃v',(Instr.indexAt t x' i').run P w=.ok v' w∧ax ρ v v':=by
 unfold bf at h
 split at h
 ·rename_i id o e' n c k j
  split at h
  ·rename_i h0
   simp at h
   subst h
   rw [hi.mU]
   cases hx with
   | slice hr ho hn hc hb=>
    rename_i o' c' r
    have dS:o'=r.sh+o:=by
     rcases ho with ho | ⟨h1,h2,h3⟩
     ·exact ho
     ·omega
    subst dS
    refine ⟨_,?_,ax.ptr hr⟩
    simp [Instr.indexAt,asIntOf,run_underlying ht,h0,rB w hk,Addr.add_lit,Nat.add_assoc]
  ·cases h
 ·cases h
theorem ax.FW {ρ:aK} {id o:Nat} {x':Value} (h:ax ρ (.pointer (some ⟨id,o,none⟩)) x'):∃r,ρ id=some r∧x'=.pointer (some ⟨r.bw,r.sh+o,none⟩):=by
 cases h with
 | ptr hr=>exact ⟨_,hr,rfl⟩
theorem aEH {ρ:aK} {t e:TypeId} {n:Nat} {x i x' i' v:Value} (ht:P.underlying t=some (.array n e)) (hk:jd P e=true)
  (h:ma n (P.cellsOf e) x i=some v) (hx:ax ρ x x') (hi:ax ρ i i'):
  ∃v',(Instr.indexAt t x' i').run P w=.ok v' w∧ax ρ v v':=by
 unfold ma at h
 split at h
 ·rename_i id o k j
  split at h
  ·rename_i h0
   simp at h
   subst h
   rw [hi.mU]
   obtain ⟨r,hr,rfl⟩:=hx.FW
   refine ⟨_,?_,ax.ptr hr⟩
   simp [Instr.indexAt,asIntOf,run_underlying ht,h0,rB w hk,Instr.sureAddr,Addr.add_lit,Nat.add_assoc]
  ·cases h
 ·cases h
theorem aEU {ρ:aK} {t:TypeId} {fs:Array Field} {f:Nat} {fd:Field} {x x' v:Value} (ht:P.underlying t=some (.struct fs)) (hf:fs[f]?=some fd) (hk:jd P fd.type=true)
  (hz:P.cellsOf fd.type≠0) (h:aL fd.offset x=some v) (hx:ax ρ x x'):
  ∃v',(Instr.fieldAt t x' f).run P w=.ok v' w∧ax ρ v v':=by
 unfold aL at h
 split at h
 ·rename_i id o
  simp at h
  subst h
  obtain ⟨r,hr,rfl⟩:=hx.FW
  refine ⟨_,?_,ax.ptr hr⟩
  simp [Instr.fieldAt,run_underlying ht,hf,Instr.sureAddr,fieldPlace,rB w hk,hz,Addr.add_lit,Nat.add_assoc]
 ·cases h
theorem ag9 {ρ:aK} {v v':Value} {n:Nat} (h:tJ v=some n) (hv:ax ρ v v'):∃k i,v'=.int k i∧0≤i∧i.toNat=n:=by
 unfold tJ at h
 split at h
 ·rename_i k i
  rw [hv.mU]
  split at h
  ·rename_i h0
   simp at h
   exact ⟨k,i,rfl,h0,h⟩
  ·cases h
 ·cases h
def yH (ρ:aK):Option Value→Option Value→Prop
 | none,none=>True
 | some a,some b=>ax ρ a b
 | _,_=>False
theorem V3 {ρ:aK} {n cap:Nat} {isSlice:Bool} {lo hi pE hO:Option Value} {l h:Nat} (he:sw n lo hi=some (l,h)) (hc:n≤cap) (eQ:yH ρ lo pE) (jD:yH ρ hi hO):
  (Instr.sliceBounds isSlice n cap pE hO none).run P w=.ok (l,h,cap) w∧l≤h∧h≤n:=by
 unfold sw at he
 split at he
 ·rename_i l1 h1 hl hh
  split at he
  ·rename_i hb
   simp at he
   obtain ⟨rfl,rfl⟩:=he
   refine ⟨?_,hb.1,hb.2⟩
   have bh:∀(v:Value),hO=some v→∃k i,v=.int k i∧0≤i∧i.toNat=h1:=by
    intro v hv
    subst hv
    cases hi with
    | none=>exact jD.elim
    | some u=>exact ag9 hh jD
   have bh0:hO=none→h1=n:=by
    intro hv
    subst hv
    cases hi with
    | none=>simpa using hh.symm
    | some u=>exact jD.elim
   have bl:∀(v:Value),pE=some v→∃k i,v=.int k i∧0≤i∧i.toNat=l1:=by
    intro v hv
    subst hv
    cases lo with
    | none=>exact eQ.elim
    | some u=>exact ag9 hl eQ
   have ZF:pE=none→l1=0:=by
    intro hv
    subst hv
    cases lo with
    | none=>simpa using hl.symm
    | some u=>exact eQ.elim
   unfold Instr.sliceBounds
   cases hO with
   | none=>
    obtain rfl:=bh0 rfl
    cases pE with
    | none=>obtain rfl:=ZF rfl;simp
    | some v=>
     obtain ⟨k,i,rfl,h0,rfl⟩:=bl v rfl
     have:i≤(h1:Int):=by omega
     simp [Instr.sliceBound,asIntOf,h0,this]
   | some u=>
    obtain ⟨k,i,rfl,h0,rfl⟩:=bh u rfl
    have EB:i≤(cap:Int):=by omega
    cases pE with
    | none=>obtain rfl:=ZF rfl;simp [Instr.sliceBound,asIntOf,h0,EB]
    | some v=>
     obtain ⟨k2,j,rfl,h2,rfl⟩:=bl v rfl
     have:j≤i:=by omega
     simp [Instr.sliceBound,asIntOf,h0,EB,h2,this,Int.toNat_of_nonneg h0]
  ·cases he
 ·cases he
theorem awD (s:ByteArray) (l h:Nat):s.extract l h=⟨(((bytes s).take h).drop l).toArray⟩:=by
 apply ByteArray.ext
 apply ext'
 simp only [bytes,ByteArray.data_extract,Array.toList_extract,List.drop_take]
theorem aE9 {ρ:aK} {t:TypeId} {x x' v:Value} {lo hi pE hO:Option Value} (ht:P.underlying t=some .string) (h:lK x lo hi=some v) (hx:ax ρ x x')
  (eQ:yH ρ lo pE) (jD:yH ρ hi hO):(Instr.sliceAt t x' pE hO none).run P w=.ok v w∧ax ρ v v:=by
 unfold lK at h
 split at h
 ·rename_i s
  rw [hx.wY]
  simp only [map_eq_some_iff,Prod.exists] at h
  obtain ⟨l,u,hb,rfl⟩:=h
  obtain ⟨hr,h1,h2⟩:=V3 (P:=P) w (isSlice:=false) hb (le_refl _) eQ jD
  refine ⟨?_,ax.S _ _⟩
  rw [←F6] at hr
  simp [Instr.sliceAt,Instr.slice,run_underlying ht,hr,S,awD]
 ·cases h
theorem aFa {ρ:aK} {t e:TypeId} {x x' v:Value} {lo hi pE hO:Option Value} (hH:∀i r,ρ i=some r→r.aY=P.cellsOf r.elem) (ht:P.underlying t=some (.slice e)) (hk:jd P e=true)
  (h:mT e (P.cellsOf e) x lo hi=some v) (hx:ax ρ x x') (eQ:yH ρ lo pE) (jD:yH ρ hi hO):
  ∃v',(Instr.sliceAt t x' pE hO none).run P w=.ok v' w∧ax ρ v v':=by
 unfold mT at h
 split at h
 ·simp only [map_eq_some_iff,Prod.exists] at h
  obtain ⟨l,u,hb,rfl⟩:=h
  obtain ⟨hr,h1,h2⟩:=V3 (P:=P) w (isSlice:=true) hb (le_refl _) eQ jD
  cases hx
  refine ⟨_,?_,.rl⟩
  obtain rfl:u=0:=by omega
  obtain rfl:l=0:=by omega
  simp [Instr.sliceAt,Instr.slice,run_underlying ht,hr,rB w hk]
 ·rename_i id o e' n c
  split at h
  ·rename_i Rz
   subst Rz
   simp only [map_eq_some_iff,Prod.exists] at h
   obtain ⟨l,u,hb,rfl⟩:=h
   cases hx with
   | slice hr ho hn hc B1=>
    rename_i o' c' r
    obtain ⟨gH,h1,h2⟩:=V3 (P:=P) w (isSlice:=true) hb hn eQ jD
    have iX:=hH _ _ hr
    by_cases gn:c'=l
    ·refine ⟨.slice (some ⟨r.bw,o',none⟩) (u-l) (c' -l),?_,?_⟩
     ·rw [gn] at gH⊢
      simp [Instr.sliceAt,Instr.slice,run_underlying ht,gH,rB w hk]
     ·refine ax.slice hr ?_ (by omega) (by omega) ?_
      ·rcases Nat.eq_zero_or_pos (l*P.cellsOf r.elem) with hz | hz
       ·rw [hz]
        rcases ho with ho | ⟨q1,q2,q3⟩
        ·exact .inl (by omega)
        ·exact .inr ⟨by omega,by omega,by omega⟩
       ·exact .inr ⟨by omega,by omega,by omega⟩
      ·have:c' -l=0:=by omega
       rw [this]
       have:o'≤o'+c'*r.aY:=Nat.le_add_right _ _
       omega
    ·refine ⟨.slice (some ⟨r.bw,o'+l*P.cellsOf r.elem,none⟩) (u-l) (c' -l),?_,?_⟩
     ·simp [Instr.sliceAt,Instr.slice,run_underlying ht,gH,rB w hk,gn,Addr.add_lit]
     ·refine ax.slice hr ?_ (by omega) (by omega) ?_
      ·rcases ho with ho | ⟨q1,q2,q3⟩
       ·exact .inl (by omega)
       ·exfalso;omega
      ·rw [←iX]
       have e1:l*r.aY+(c' -l)*r.aY=c'*r.aY:=by rw [←add_mul];congr 1;omega
       omega
  ·cases h
 ·cases h
theorem aE7 {ρ:aK} {o:Oper} {ox:Operand} {g':Operand→Value} {x v:Value} (ho:o.op=.nilCheck ox) (h:ym x=some v) (hx:ax ρ x (g' ox)):
  ∃v',(execOp g' o).run P w=.ok (.value v') w∧ax ρ v v':=by
 unfold ym at h
 split at h
 ·simp at h
  subst h
  generalize hy:g' ox=y at hx
  have bT:=hx
  cases hx with
  | ptr hr=>
   refine ⟨_,?_,bT⟩
   simp [execOp,ho,hy]
 ·simp at h
  subst h
  generalize hy:g' ox=y at hx
  have bT:=hx
  cases hx with
  | func f a b c d=>
   refine ⟨_,?_,bT⟩
   simp [execOp,ho,hy]
  | yield hr=>
   refine ⟨_,?_,bT⟩
   simp [execOp,ho,hy]
 ·cases h
theorem aET {ρ:aK} {x x' v:Value} {i:Nat} (h:cg i x=some v) (hx:ax ρ x x'):∃v',(Instr.extract x' i).run P w=.ok v' w∧ax ρ v v':=by
 unfold cg at h
 split at h
 ·cases hx with
  | tuple hs hr=>
   obtain ⟨y,hy,hv⟩:=(bG.tR hs hr).get (k:=i) (x:=v) (by simpa using h)
   refine ⟨y,?_,hv⟩
   simp only [getElem?_toList] at hy
   simp [Instr.extract,hy]
 ·cases h
end
theorem bG.AH {ρ:aK} {g g':Operand→Value} (hg:∀x,jM x=true→ax ρ (g x) (g' x)):∀{xs:List Operand},xs.all jM=true→bG ρ (xs.map g) (xs.map g')
 | [],_=>.nil
 | x::xs,h=>by
  simp at h
  exact .cons (hg x h.1) (bG.AH hg (by simpa using h.2))
end
section
theorem aFi (l:List Value) (o:Nat) (v:Value) (vs:List Value) (h:o<l.length):setAt (l.set o v) (o+1) vs=setAt l o (v::vs):=by
 have e:l.set o v=l.take o++v::l.drop (o+1):=by rw [List.set_eq_take_append_cons_drop,if_pos h]
 have hl:(l.take o).length=o:=by simp;omega
 unfold setAt
 have e1:(l.set o v).take (o+1)=l.take o++[v]:=by
  rw [e,List.take_append,hl,List.take_of_length_le (by omega)]
  simp
 have e2:(l.set o v).drop (o+1+vs.length)=l.drop (o+(v::vs).length):=by
  rw [List.drop_set,if_pos (by omega)]
  congr 1
  simp
  omega
 rw [e1,e2]
 simp
theorem aFm (vs:List Value):∀(off i:Nat) (cs:Array Value),off+i+vs.length≤cs.size→
  ((vs.zipIdx i).foldl (fun cs (c,j)=>cs.setIfInBounds (off+j) c) cs).toList=setAt cs.toList (off+i) vs:=by
 induction vs with
 | nil=>intro off i cs h;simp [setAt]
 | cons v vs ih=>
  intro off i cs h
  simp only [List.zipIdx_cons,List.foldl_cons]
  rw [ih off (i+1) _ (by simp at h⊢;omega)]
  rw [Array.toList_setIfInBounds,show off+(i+1)=off+i+1 by omega]
  exact aFi _ _ _ _ (by simp at h⊢;omega)
theorem aFl {ρ:aK} {xs ys:List Value} (h:bG ρ xs ys) {o:Nat} {vs jS:List Value} (hv:bG ρ vs jS):bG ρ (setAt xs o vs) (setAt ys o jS):=by
 unfold setAt
 rw [←hv.length]
 exact ((h.take o).append hv).append (h.drop _)
theorem aFj {xs:List Value} {o:Nat} {vs:List Value} {p:Value→Prop} (h:∀x∈xs,p x) (hv:∀x∈vs,p x):∀x∈setAt xs o vs,p x:=by
 intro x hx
 unfold setAt at hx
 simp only [List.mem_append] at hx
 rcases hx with (hx | hx) | hx
 ·exact h x (List.mem_of_mem_take hx)
 ·exact hv x hx
 ·exact h x (List.mem_of_mem_drop hx)
inductive vH (ρ:aK) (place:Nat→Option (Nat×Nat)):List (Nat×Nat×Value)→List (Nat×Value)→Prop
 | nil:vH ρ place [] []
 | cons {o s i:Nat} {v v':Value} {ps:List (Nat×Nat×Value)} {qs:List (Nat×Value)}:place i=some (o,s)→ax ρ v v'→vH ρ place ps qs→vH ρ place ((o,s,v)::ps) ((i,v')::qs)
theorem QX {ρ:aK} {place:Nat→Option (Nat×Nat)} {ps:List (Nat×Nat×Value)} {qs:List (Nat×Value)} (hp:vH ρ place ps qs):
  ∀{xs cs:List Value} {ys:Array Value},rQ xs ps=some cs→bG ρ xs ys.toList→(∀x∈xs,gK x=true)→
   ∃jH,Instr.fill place ys qs=some jH∧bG ρ cs jH.toList∧(∀x∈cs,gK x=true)∧cs.length=xs.length:=by
 induction hp with
 | nil=>
  intro xs cs ys h hs h1
  simp [rQ] at h
  subst h
  exact ⟨ys,by simp [Instr.fill],hs,h1,rfl⟩
 | cons j6 hv _ ih=>
  rename_i o s i v v' ps qs _
  intro xs cs ys h hs h1
  simp only [rQ] at h
  split at h
  ·rename_i hc
   obtain ⟨ht,hl,ho⟩:=hc
   have Cp:=hv.cells ht
   have lX:v'.cells.size=s:=by rw [←hl,Cp.length];simp [cW]
   have jJ:o+v'.cells.size≤ys.size:=by have:=hs.length;simp at this;omega
   have Ez:=aFm (cW v') o 0 ys (by simp [cW];omega)
   simp only [Nat.add_zero] at Ez
   have xM:v'.cells.zipIdx.foldl (fun cs x=>cs.setIfInBounds (o+x.2) x.1) ys=(setAt ys.toList o (cW v')).toArray:=by
    apply ext'
    rw [←Ez,←Array.foldl_toList]
    simp [cW,Array.toList_zipIdx]
   obtain ⟨jH,hf,hr,h2,hlen⟩:=ih (ys:=(setAt ys.toList o (cW v')).toArray) h (by simpa using aFl hs Cp) (aFj h1 (hv.IA ht))
   refine ⟨jH,?_,hr,h2,?_⟩
   ·unfold Instr.fill
    simp only [j6]
    rw [if_neg (by simp [lX];omega)]
    rw [←hf,←xM]
   ·rw [hlen]
    simp [setAt]
    omega
  ·cases h
theorem Dc {P:Program} {t:TypeId} {zs:List Value} (h:zeroOf P t=some zs):
  ∃i z,P.info? t=some i∧i.zero=some z∧zs=cW z∧gr z=true∧(∀x∈zs,mL x=true∧gK x=true)∧zs.length=i.size:=by
 unfold zeroOf at h
 split at h
 ·rename_i i hi
  split at h
  ·rename_i z hz
   split at h
   ·rename_i hc
    simp at h
    subst h
    simp only [and_eq_true,all_eq_true,BD,beq_iff_eq] at hc
    exact ⟨i,z,hi,hz,rfl,hc.1.1,fun x hx=>hc.1.2 x hx,hc.2⟩
   ·cases h
  ·cases h
 ·cases h
theorem bG.closed {ρ:aK}:∀{zs:List Value},(∀x∈zs,mL x=true)→bG ρ zs zs
 | [],_=>.nil
 | x::zs,h=>.cons (mL.rel (h x (by simp))) (bG.closed fun y hy=>h y (by simp [hy]))
section
variable {P : Program} (w : World)
theorem A1 {t:TypeId} {i:TypeInfo} {z:Value} (hi:P.info? t=some i) (hz:i.zero=some z):(zeroValue t).run P w=.ok z w:=by
 simp [zeroValue,typeInfo,hi,hz]
theorem ana:∀(fs:List Field),(∀f∈fs,jd P f.type=true)→
  (fs.mapM (m:=Sem) fun f=>do pure (f.offset,←sizeOf f.type)).run P w=.ok (fs.map fun f=>(f.offset,P.cellsOf f.type)) w
 | [],_=>rfl
 | f::fs,h=>by
  have ih:=ana fs (fun g hg=>h g (by simp [hg]))
  simp only [List.mapM_cons,Sem.run_bind,rB w (h f (by simp)),Result.andThen_ok,Sem.run_pure,ih,List.map_cons]
end
end
section
section
variable {P : Program} (w : World) {ρ : aK} {g g' : Operand → Value}
theorem KA (hg:∀x,jM x=true→ax ρ (g x) (g' x)) (l:Option Operand) (h:l.toArray.all jM=true):yH ρ (l.map g) (l.map g'):=by
 cases l with
 | none=>trivial
 | some x=>exact hg x (by simpa using h)
theorem alI (hg:∀x,jM x=true→ax ρ (g x) (g' x)) (place:Nat→Option (Nat×Nat)):∀(qs:List (Nat×Operand)) (ps:List (Nat×Nat×Operand)),
  qs.mapM (m:=Option) (fun (i,x)=>(place i).map fun (o,s)=>(o,s,x))=some ps→(∀q∈qs,jM q.2=true)→
  vH ρ place (ps.map fun (o,s,x)=>(o,s,g x)) (qs.map fun (i,x)=>(i,g' x))
 | [],ps,h,_=>by
  simp at h
  subst h
  exact .nil
 | (i,x)::qs,ps,h,hq=>by
  simp only [List.mapM_cons,Option.bind_eq_bind,bind_eq_some_iff] at h
  obtain ⟨p,hp,ps',Cg,h⟩:=h
  simp at h
  subst h
  simp only [map_eq_some_iff] at hp
  obtain ⟨⟨o,s⟩,j6,rfl⟩:=hp
  exact .cons j6 (hg x (hq (i,x) (by simp))) (alI hg place qs ps' Cg fun q hm=>hq q (by simp [hm]))
theorem Vm (hg:∀x,jM x=true→ax ρ (g x) (g' x)) (pl:Nat→Nat×Nat):∀(qs:List (Nat×Operand)),(∀q∈qs,jM q.2=true)→
  vH ρ (fun i=>some (pl i)) ((qs.map fun (i,x)=>((pl i).1,(pl i).2,x)).map fun (o,s,x)=>(o,s,g x)) (qs.map fun (i,x)=>(i,g' x))
 | [],_=>.nil
 | (i,x)::qs,hq=>.cons rfl (hg x (hq (i,x) (by simp))) (Vm hg pl qs fun q hm=>hq q (by simp [hm]))
theorem aEP {t:TypeId} {fs:Array Field} {zs:List Value} {ps:List (Nat×Nat×Value)} {qs:Array (Nat×Value)} {v:Value} (ht:P.underlying t=some (.struct fs)) (hz:zeroOf P t=some zs)
  (hk:∀f∈fs.toList,jd P f.type=true) (hp:vH ρ ((placesOf P fs)[·]?) ps qs.toList) (h:dd zs ps=some v):
  ∃v',(Instr.build t qs).run P w=.ok v' w∧ax ρ v v':=by
 obtain ⟨i,z,hi,qZ,rfl,oL,gn,hlen⟩:=Dc hz
 simp only [dd,map_eq_some_iff] at h
 obtain ⟨cs,hf,rfl⟩:=h
 obtain ⟨jH,B9,hr,h1,_⟩:=QX (ys:=z.cells) hp hf (bG.closed fun x hx=>(gn x hx).1) (fun x hx=>(gn x hx).2)
 refine ⟨.agg jH,?_,?_⟩
 ·have hm:=ana (P:=P) w fs.toList hk
  have gp:(fs.mapM (m:=Sem) fun f=>do pure (f.offset,←sizeOf f.type)).run P w=.ok (fs.toList.map fun f=>(f.offset,P.cellsOf f.type)).toArray w:=by
   rw [Array.mapM_eq_mapM_toList]
   simp only [Sem.run_map,hm,Result.andThen_ok]
  have j6:(fun (x:Nat)=>((fs.toList.map fun f=>(f.offset,P.cellsOf f.type)).toArray)[x]?)=((placesOf P fs)[·]?):=by
   funext x
   simp [placesOf]
  simp only [Instr.build,Sem.run_bind,A1 w hi qZ,Result.andThen_ok,run_underlying ht,gp]
  rw [j6,B9]
  simp
 ·have:=ax.Bx (ρ:=ρ) hr h1
  simpa using this
theorem aEO {t e:TypeId} {n:Nat} {zs:List Value} {ps:List (Nat×Nat×Value)} {qs:Array (Nat×Value)} {v:Value} (ht:P.underlying t=some (.array n e)) (hz:zeroOf P t=some zs)
  (hk:jd P e=true) (hp:vH ρ (fun i=>some (i*P.cellsOf e,P.cellsOf e)) ps qs.toList) (h:dd zs ps=some v):
  ∃v',(Instr.build t qs).run P w=.ok v' w∧ax ρ v v':=by
 obtain ⟨i,z,hi,qZ,rfl,oL,gn,hlen⟩:=Dc hz
 simp only [dd,map_eq_some_iff] at h
 obtain ⟨cs,hf,rfl⟩:=h
 obtain ⟨jH,B9,hr,h1,_⟩:=QX (ys:=z.cells) hp hf (bG.closed fun x hx=>(gn x hx).1) (fun x hx=>(gn x hx).2)
 refine ⟨.agg jH,?_,?_⟩
 ·simp only [Instr.build,Sem.run_bind,A1 w hi qZ,Result.andThen_ok,run_underlying ht,rB w hk]
  rw [B9]
  simp
 ·have:=ax.Bx (ρ:=ρ) hr h1
  simpa using this
theorem awJ {fn:Func} (h:fn.name= "internal/bytealg.IndexByteString"):Extern.find fn=some Extern.BytealgIndexByte.indexByte:=by
 unfold Extern.find
 rw [h]
 rfl
theorem awC {f:FuncId} (h:QP P f=true):∃fn,P.funcs[f]?=some fn∧(fn.name== "runtime.NumGoroutine")=false∧fn.body.isNone=true∧Extern.findNext fn=none∧Extern.find fn=some Extern.BytealgIndexByte.indexByte:=by
 unfold QP at h
 split at h
 ·rename_i fn hf
  simp only [and_eq_true,beq_iff_eq] at h
  obtain ⟨⟨h1,h2⟩,h3⟩:=h
  exact ⟨fn,hf,by rw [h2];decide,h1,by simpa using h3,awJ h2⟩
 ·cases h
theorem aA9 {o:Oper} {po:qC} (hc:jq P o.op=some po) (aE:o.op.operands.all jM=true) (hH:∀i r,ρ i=some r→r.aY=P.cellsOf r.elem)
  (hg:∀x,jM x=true→ax ρ (g x) (g' x)) {v:Value} (hi:jK po g=some v):∃v',(execOp g' o).run P w=.ok (.value v') w∧ax ρ v v':=by
 cases ho:o.op with
 | move x=>
  rw [ho] at hc aE
  simp [jq] at hc;subst hc
  simp [Op.operands] at aE
  simp [jK] at hi;subst hi
  exact ⟨g' x,by simp [execOp,ho],hg x aE⟩
 | assign x=>
  rw [ho] at hc aE
  simp [jq] at hc;subst hc
  simp [Op.operands] at aE
  simp [jK] at hi;subst hi
  exact ⟨g' x,by simp [execOp,ho],hg x aE⟩
 | pick c a b=>
  rw [ho] at hc aE
  simp [jq] at hc;subst hc
  simp [Op.operands] at aE
  simp only [jK,bQ] at hi
  split at hi
  ·rename_i t ht
   have xN:=hg c aE.1
   rw [ht] at xN
   simp at hi;subst hi
   refine ⟨if t then g' a else g' b,by simp [execOp,ho,xN.yV,asBool],?_⟩
   cases t
   ·simpa using hg b aE.2.2
   ·simpa using hg a aE.2.1
  ·cases hi
 | binOp op t x y yt=>
  rw [ho] at hc aE
  simp [Op.operands] at aE
  have hx:=hg x aE.1
  have hy:=hg y aE.2
  simp only [jq] at hc
  have fin:∀v',(do eqGuard op t x y (g' x) (g' y);binOp op t (g' x) (g' y):Sem Value).run P w=.ok v' w→(execOp g' o).run P w=.ok (.value v') w:=by
   intro v' h
   simp only [execOp,ho]
   simp only [Sem.run_bind] at h⊢
   rw [h]
   rfl
  split at hc
  ·simp at hc;subst hc
   obtain ⟨h1,h2⟩:=am1 P w (op:=.eql) t x y ‹_› rfl hi hx hy
   exact ⟨v,fin v h1,h2⟩
  ·simp at hc;subst hc
   obtain ⟨h1,h2⟩:=am1 P w (op:=.neq) t x y ‹_› rfl hi hx hy
   exact ⟨v,fin v h1,h2⟩
  ·simp at hc;subst hc
   obtain ⟨h1,h2⟩:=am2 P w (op:=.eql) t x y ‹_› rfl hi hx hy
   exact ⟨v,fin v h1,h2⟩
  ·simp at hc;subst hc
   obtain ⟨h1,h2⟩:=am2 P w (op:=.neq) t x y ‹_› rfl hi hx hy
   exact ⟨v,fin v h1,h2⟩
  ·simp at hc;subst hc
   obtain ⟨h1,h2⟩:=aEM P w t x y hi hx hy
   exact ⟨v,fin v h1,h2⟩
 | unOp op t x=>
  rw [ho] at hc aE
  simp [jq] at hc;subst hc
  simp [Op.operands] at aE
  obtain ⟨h1,h2⟩:=aFd P w hi (hg x aE)
  exact ⟨v,by simp [execOp,ho,h1],h2⟩
 | convert s d x=>
  rw [ho] at hc aE
  simp [Op.operands] at aE
  simp only [jq] at hc
  split at hc
  ·rename_i k0 k hs hd
   simp at hc;subst hc
   simp only [jK,dA] at hi
   split at hi
   ·rename_i k1 n hx
    have:=hg x aE
    rw [hx] at this
    simp at hi;subst hi
    refine ⟨_,?_,.int _ _⟩
    simp [execOp,ho,this.mU,convert,run_underlying hs,run_underlying hd,Conv.intToInt]
   ·cases hi
  ·rename_i hs hd
   simp at hc;subst hc
   simp only [jK,afF] at hi
   split at hi
   ·rename_i z hx
    have:=hg x aE
    rw [hx] at this
    simp at hi;subst hi
    refine ⟨_,?_,.string _⟩
    simp [execOp,ho,this.wY,convert,run_underlying hs,run_underlying hd]
   ·cases hi
  ·cases hc
 | indexAddr t x i=>
  rw [ho] at hc aE
  simp [Op.operands] at aE
  simp only [jq] at hc
  split at hc
  ·rename_i e ht
   split at hc
   ·rename_i hk
    simp at hc;subst hc
    obtain ⟨v',h1,h2⟩:=aEI w ht hk hi (hg x aE.1) (hg i aE.2)
    exact ⟨v',by simp [execOp,ho,h1],h2⟩
   ·cases hc
  ·rename_i n e ht
   split at hc
   ·rename_i hk
    simp at hc;subst hc
    obtain ⟨v',h1,h2⟩:=aEH w ht hk hi (hg x aE.1) (hg i aE.2)
    exact ⟨v',by simp [execOp,ho,h1],h2⟩
   ·cases hc
  ·cases hc
 | index t x i=>
  rw [ho] at hc aE
  simp [Op.operands] at aE
  simp only [jq] at hc
  split at hc
  ·rename_i ht
   simp at hc;subst hc
   obtain ⟨h1,h2⟩:=aEX w ht hi (hg x aE.1) (hg i aE.2)
   exact ⟨v,by simp [execOp,ho,h1],h2⟩
  ·rename_i n e ht
   split at hc
   ·rename_i d hd
    split at hc
    ·rename_i hk
     simp at hc;subst hc
     simp only [and_eq_true] at hk
     obtain ⟨v',h1,h2⟩:=aEW w ht hd hk.1 hi (hg x aE.1) (hg i aE.2)
     exact ⟨v',by simp [execOp,ho,h1],h2⟩
    ·cases hc
   ·cases hc
  ·cases hc
 | fieldAddr t x f=>
  rw [ho] at hc aE
  simp [Op.operands] at aE
  simp only [jq] at hc
  split at hc
  ·rename_i fs ht
   split at hc
   ·rename_i fd hf
    split at hc
    ·rename_i hk
     simp at hc;subst hc
     simp only [and_eq_true,bne_iff_ne] at hk
     obtain ⟨v',h1,h2⟩:=aEU w ht hf hk.1 hk.2 hi (hg x aE)
     exact ⟨v',by simp [execOp,ho,h1],h2⟩
    ·cases hc
   ·cases hc
  ·cases hc
 | field t x f=>
  rw [ho] at hc aE
  simp [Op.operands] at aE
  simp only [jq] at hc
  split at hc
  ·rename_i fs ht
   split at hc
   ·rename_i fd hf
    split at hc
    ·rename_i d hd
     split at hc
     ·rename_i hk
      simp at hc;subst hc
      simp only [and_eq_true] at hk
      obtain ⟨v',h1,h2⟩:=aEV w ht hf hd hk.1 hi (hg x aE)
      exact ⟨v',by simp [execOp,ho,h1],h2⟩
     ·cases hc
    ·cases hc
   ·cases hc
  ·cases hc
 | slice t x lo hO mx=>
  rw [ho] at hc aE
  simp only [jq] at hc
  split at hc
  ·rename_i ht
   simp at hc;subst hc
   simp only [Op.operands,Array.all_append,and_eq_true] at aE
   obtain ⟨⟨⟨h0,h1⟩,h2⟩,_⟩:=aE
   obtain ⟨k1,k2⟩:=aE9 w ht hi (hg x (by simpa using h0)) (KA hg lo h1) (KA hg hO h2)
   exact ⟨v,by simp [execOp,ho,k1],k2⟩
  ·rename_i e ht
   split at hc
   ·rename_i hk
    simp at hc;subst hc
    simp only [Op.operands,Array.all_append,and_eq_true] at aE
    obtain ⟨⟨⟨h0,h1⟩,h2⟩,_⟩:=aE
    obtain ⟨v',k1,k2⟩:=aFa w hH ht hk hi (hg x (by simpa using h0)) (KA hg lo h1) (KA hg hO h2)
    exact ⟨v',by simp [execOp,ho,k1],k2⟩
   ·cases hc
  ·cases hc
 | nilCheck x=>
  rw [ho] at hc aE
  simp [jq] at hc;subst hc
  simp [Op.operands] at aE
  exact aE7 w ho hi (hg x aE)
 | makeFunc fn first captured=>
  rw [ho] at hc aE
  cases fn with
  | func f=>
   simp [jq] at hc;subst hc
   simp only [Op.operands,Array.all_append,and_eq_true] at aE
   simp [jK] at hi;subst hi
   have h1:=bG.AH hg (xs:=first.toList) (by simpa using aE.1)
   have h2:=bG.AH hg (xs:=captured.toList) (by simpa using aE.2)
   refine ⟨.func (.func f) (first.map g') (captured.map g'),by simp [execOp,ho,Instr.makeFunc],?_⟩
   refine .func f (by simp) (by simp) ?_ ?_
   ·have:=h1.ofList
    simpa using this
   ·have:=h2.ofList
    simpa using this
  | _=>simp [jq] at hc
 | extract x i=>
  rw [ho] at hc aE
  simp [jq] at hc;subst hc
  simp [Op.operands] at aE
  obtain ⟨v',h1,h2⟩:=aET (P:=P) w hi (hg x aE)
  exact ⟨v',by simp [execOp,ho,h1],h2⟩
 | build t parts=>
  rw [ho] at hc aE
  simp only [jq] at hc
  simp only [Op.operands] at aE
  have hq:∀q∈parts.toList,jM q.2=true:=by
   intro q hm
   rw [Array.all_eq_true'] at aE
   exact aE q.2 (by simp;exact ⟨q.1,by simpa using hm⟩)
  split at hc
  ·rename_i fs zs ht hz
   split at hc
   ·rename_i hk
    split at hc
    ·rename_i ps Cg
     simp at hc;subst hc
     have hp:=alI hg ((placesOf P fs)[·]?) parts.toList ps Cg hq
     have cj:∀f∈fs.toList,jd P f.type=true:=by
      rw [Array.all_eq_true'] at hk
      intro f hf
      exact hk f (by simpa using hf)
     obtain ⟨v',h1,h2⟩:=aEP w ht hz cj (qs:=parts.map fun (i,x)=>(i,g' x)) (by simpa using hp) hi
     exact ⟨v',by simp [execOp,ho,h1],h2⟩
    ·cases hc
   ·cases hc
  ·rename_i n e zs ht hz
   split at hc
   ·rename_i hk
    simp at hc;subst hc
    have hp:=Vm hg (fun i=>(i*P.cellsOf e,P.cellsOf e)) parts.toList hq
    obtain ⟨v',h1,h2⟩:=aEO w ht hz hk (qs:=parts.map fun (i,x)=>(i,g' x)) (by simpa using hp) hi
    exact ⟨v',by simp [execOp,ho,h1],h2⟩
   ·cases hc
  ·cases hc
 | call c=>
  rw [ho] at hc aE
  obtain ⟨callee,args,argTypes⟩:=c
  cases callee with
  | builtin b=>
   simp only [Op.operands,Call.operands,Array.empty_append] at aE
   have ta:=bG.AH hg (xs:=args.toList) (by simpa using aE)
   have fin:∀v',(∀BG,(builtin b argTypes o.type BG (args.map g')).run P w=.ok (.value v') w)→(execOp g' o).run P w=.ok (.value v') w:=by
    intro v' h
    simp [execOp,ho,resolve,invoke,h]
   cases b with
   | len=>
    simp only [jq] at hc
    split at hc
    ·rename_i x t hx wz
     obtain rfl:args=#[x]:=ext' hx
     obtain rfl:argTypes=#[t]:=ext' wz
     simp at aE
     have hr:=hg x aE
     split at hc
     ·rename_i ht
      simp at hc;subst hc
      simp only [jK,gI] at hi
      split at hi
      ·rename_i s hs
       rw [hs] at hr
       simp at hi;subst hi
       refine ⟨_,fin _ ?_,.int _ _⟩
       intro BG
       simp [builtin,Builtin.len_,run_underlying ht,hr.wY,goInt,F6]
      ·cases hi
     ·rename_i e ht
      simp at hc;subst hc
      simp only [jK,bj] at hi
      split at hi
      ·rename_i a n c hs
       rw [hs] at hr
       simp at hi;subst hi
       refine ⟨_,fin _ ?_,.int _ _⟩
       intro BG
       generalize hy:g' x=y at hr
       cases hr <;> simp [builtin,Builtin.len_,run_underlying ht,hy,goInt]
      ·cases hi
     ·rename_i n e ht
      simp at hc;subst hc
      simp [jK] at hi;subst hi
      refine ⟨_,fin _ ?_,.int _ _⟩
      intro BG
      simp [builtin,Builtin.len_,run_underlying ht,goInt]
     ·cases hc
    ·cases hc
   | min=>
    simp [jq] at hc;subst hc
    simp only [jK,yl] at hi
    split at hi
    ·rename_i k n rest hl
     rw [hl] at ta
     generalize hy:args.toList.map g'=ys at ta
     cases ta with
     | cons h1 h2=>
      rename_i y0 ys0
      have e:=h1.mU
      subst e
      obtain ⟨k1,k2⟩:=V5 (P:=P) w hi h2
      refine ⟨v,fin v ?_,k2⟩
      intro BG
      simp only [builtin,Sem.run_bind,Builtin.min_,Array.toList_map,hy]
      simp at k1
      rw [k1]
      rfl
    ·cases hi
   | max=>
    simp [jq] at hc;subst hc
    simp only [jK,yl] at hi
    split at hi
    ·rename_i k n rest hl
     rw [hl] at ta
     generalize hy:args.toList.map g'=ys at ta
     cases ta with
     | cons h1 h2=>
      rename_i y0 ys0
      have e:=h1.mU
      subst e
      obtain ⟨k1,k2⟩:=V5 (P:=P) w hi h2
      refine ⟨v,fin v ?_,k2⟩
      intro BG
      simp only [builtin,Sem.run_bind,Builtin.max_,Array.toList_map,hy]
      simp at k1
      rw [k1]
      rfl
    ·cases hi
   | _=>simp [jq] at hc
  | value y=>
   cases y with
   | func f=>
    simp only [jq] at hc
    split at hc
    ·rename_i x c hx
     split at hc
     ·rename_i hf
      simp at hc;subst hc
      obtain rfl:args=#[x,c]:=ext' hx
      simp [Op.operands,Call.operands] at aE
      simp only [jK] at hi
      split at hi
      ·rename_i f' a b hgf
       split at hi
       ·rename_i iD
        obtain ⟨rfl,ha,hb⟩:=iD
        obtain rfl:=Array.eq_empty_of_size_eq_zero ha
        obtain rfl:=Array.eq_empty_of_size_eq_zero hb
        have h0:=hg (.func f') aE.1
        rw [hgf] at h0
        generalize hy:g' (.func f')=y at h0
        cases h0 with
        | func _ s1 s2 _ _=>
         rename_i fL Bc
         obtain rfl:=Array.eq_empty_of_size_eq_zero s1.symm
         obtain rfl:=Array.eq_empty_of_size_eq_zero s2.symm
         simp only [E5] at hi
         split at hi
         ·rename_i s n hs hn
          injection hi with hi
          subst hi
          have h1:=hg x aE.2.1
          have h2:=hg c aE.2.2
          rw [hs] at h1
          rw [hn] at h2
          have e1:=h1.wY
          have e2:=h2.mU
          refine ⟨_,?_,.int _ _⟩
          obtain ⟨fn,q1,q2,q3,q4,q5⟩:=awC hf
          have:=run_callFunc_extern (P:=P) q1 q2 q3 q4 q5 #[.string s,.int .u8 n] w
          simp [execOp,ho,resolve,Deferred.ofValue,invoke,hy,e1,e2]
          rw [this,Lib.run_indexByteString]
          rfl
         ·cases hi
       ·cases hi
      ·cases hi
     ·cases hc
    ·cases hc
   | _=>simp [jq] at hc
  | _=>simp [jq] at hc
 | _=>rw [ho] at hc;simp [jq] at hc
end
end
section
theorem gv.mono {ρ av:aK} (h:ρ.le av) {c:Array Value} {sh:Nat} {xs:List Value} (hc:gv ρ c sh xs):gv av c sh xs:=by
 intro j x hj
 obtain ⟨h1,y,hy,hr⟩:=hc j x hj
 exact ⟨h1,y,hy,hr.mono h⟩
theorem lM.mono {ρ av:aK} {w w':World} {r:RI} {o:aj} (hle:ρ.le av) (hw:w'.heap[r.bw]?=w.heap[r.bw]?) (h:lM ρ w r o):lM av w' r o:=by
 cases o with
 | ro e xs=>
  obtain ⟨h1,c,t,fr,h2,h3,h4⟩:=h
  exact ⟨h1,c,t,fr,by rw [hw];exact h2,h3,h4.mono hle⟩
 | arr e xs=>
  obtain ⟨h1,h0,c,h2,h3,h4⟩:=h
  exact ⟨h1,h0,c,by rw [hw];exact h2,h3,h4.mono hle⟩
 | smap es=>
  obtain ⟨aJ,clock,h1,h2,h3⟩:=h
  refine ⟨aJ,clock,by rw [hw];exact h1,h2,?_⟩
  intro j k v hj
  obtain ⟨en,he,hk,hv⟩:=h3 j k v hj
  exact ⟨en,he,hk,hv.mono hle⟩
 | fm kd es=>
  obtain ⟨aJ,clock,h1,h2,h3⟩:=h
  refine ⟨aJ,clock,by rw [hw];exact h1,h2,?_⟩
  intro j k v hj
  obtain ⟨en,he,hk,hv⟩:=h3 j k v hj
  exact ⟨en,he,hk,hv.mono hle⟩
 | cU g c es=>
  obtain ⟨h0,aJ,h1,h2,h3⟩:=h
  refine ⟨h0,aJ,by rw [hw];exact h1,h2,?_⟩
  intro j b k v hj
  obtain ⟨hg,en,he,hk,hb,hv⟩:=h3 j b k v hj
  exact ⟨hg,en,he,hk,hb,hv.mono hle⟩
 | iter m s n l=>
  obtain ⟨h0,rm,h1,h2⟩:=h
  exact ⟨h0,rm,hle _ _ h1,by rw [hw];exact h2⟩
 | loop c ls vs=>
  obtain ⟨rec,h1,h2,h3,h4,h5,h6,h7,h8⟩:=h
  exact ⟨rec,by rw [hw];exact h1,h2,h3,h4,h5,h6,h7,fun t=>(h8 t).mono hle⟩
 | dead=>trivial
def aK.add (ρ:aK) (i:Nat) (r:RI):aK:=fun j=>if j=i then some r else ρ j
theorem aK.wJ {ρ:aK} {i:Nat} {r:RI} (h:ρ i=none):ρ.le (ρ.add i r):=by
 intro j s hj
 unfold aK.add
 split
 ·rename_i e;subst e;rw [h] at hj;cases hj
 ·exact hj
theorem a9.none {P:Program} {ρ:aK} {h:ae} {w:World} (H:a9 P ρ h w):ρ h.length=none:=by
 cases hr:ρ h.length with
 | none=>rfl
 | some r=>exact absurd (H.lt hr) (Nat.lt_irrefl _)
theorem CF {P:Program} {ρ:aK} {h:ae} {w:World} (H:a9 P ρ h w) {i:Nat} {r:RI} (hi:ρ i=some r) (hl:fq h i):r.bw<w.heap.size:=by
 obtain ⟨o,ho,hr⟩:=H.obj i r hi
 obtain ⟨o',dS,bp⟩:=hl
 rw [ho] at dS
 cases dS
 have key:∀{x:Obj},w.heap[r.bw]?=some x→r.bw<w.heap.size:=fun h=>(Array.getElem?_eq_some_iff.1 h).1
 cases o with
 | ro e xs=>obtain ⟨_,c,_,fr,h2,_⟩:=hr;exact key h2
 | arr e xs=>obtain ⟨_,_,c,h2,_⟩:=hr;exact key h2
 | smap es=>obtain ⟨aJ,clock,h1,_⟩:=hr;exact key h1
 | fm kd es=>obtain ⟨aJ,clock,h1,_⟩:=hr;exact key h1
 | cU g c es=>obtain ⟨_,aJ,h1,_⟩:=hr;exact key h1
 | iter m s n l=>obtain ⟨_,rm,_,h1⟩:=hr;exact key h1
 | loop c ls vs=>obtain ⟨rec,h1,_⟩:=hr;exact key h1
 | dead=>exact absurd rfl bp
structure jX (w:World) (b:Obj) (w':World):Prop where
 heap:w'.heap=w.heap.push b
 os:w'.os=w.os
 tape:w'.tape=w.tape
 output:w'.output=w.output
theorem jX.alloc (w:World) (b:Obj):jX w b (w.alloc b):=⟨rfl,rfl,rfl,rfl⟩
theorem jX.drew (w:World) (b:Obj):jX w b (w.drew.alloc b):=⟨rfl,rfl,rfl,rfl⟩
theorem jX.old {w w':World} {b:Obj} (n:jX w b w') {k:Nat} (h:k<w.heap.size):w'.heap[k]?=w.heap[k]?:=by
 rw [n.heap,Array.getElem?_push,if_neg (by omega)]
theorem jX.new {w w':World} {b:Obj} (n:jX w b w'):w'.heap[w.heap.size]?=some b:=by
 rw [n.heap,Array.getElem?_push,if_pos rfl]
theorem jX.size {w w':World} {b:Obj} (n:jX w b w'):w'.heap.size=w.heap.size+1:=by
 rw [n.heap];simp
theorem a9.new {P:Program} {ρ:aK} {h h₀:ae} {w w':World} {b:Obj} {r:RI} {o:aj} (H:a9 P ρ h w) (nb:jX w b w') (hb:r.bw=w.heap.size) (he:r.aY=P.cellsOf r.elem)
  (hk:h₀.length=h.length) (hd:∀i:Nat,h₀[i]?=h[i]?∨h₀[i]?=some aj.dead)
  (ho:lM (ρ.add h.length r) w' r o):a9 P (ρ.add h.length r) (h₀++[o]) w'∧Tr ρ h w (ρ.add h.length r) (h₀++[o]) w':=by
 have hle:=aK.wJ (r:=r) H.none
 have jE:∀i,i<h.length→cF (h₀++[o]) i→cF h i:=by
  intro i hi hm
  unfold cF at hm⊢
  rw [getElem?_append_left (by omega)] at hm
  rcases hd i with e | e <;> rw [e] at hm
  ·exact hm
  ·rcases hm with ⟨_,_,hm⟩ | ⟨_,hm⟩ | ⟨_,_,_,hm⟩ | ⟨_,_,hm⟩ | ⟨_,_,_,hm⟩ | ⟨_,_,_,_,hm⟩ <;> cases hm
 have zS:∀i,i<h.length→fq (h₀++[o]) i→fq h i:=by
  intro i hi hm
  unfold fq at hm⊢
  rw [getElem?_append_left (by omega)] at hm
  rcases hd i with e | e <;> rw [e] at hm
  ·exact hm
  ·obtain ⟨o',h1,h2⟩:=hm;cases h1;exact absurd rfl h2
 have bw:∀i s,ρ i=some s→fq (h₀++[o]) i→s.bw<w.heap.size:=fun i s hi hl=>CF H hi (zS i (H.lt hi) hl)
 constructor
 ·constructor
  ·intro i s hi
   unfold aK.add at hi
   split at hi
   ·rename_i e
    subst e
    cases hi
    refine ⟨o,?_,ho⟩
    rw [←hk]
    simp
   ·obtain ⟨o',dS,hr⟩:=H.obj i s hi
    have aD:=H.lt hi
    rw [getElem?_append_left (by omega)]
    rcases hd i with e | e
    ·refine ⟨o',by rw [e];exact dS,?_⟩
     by_cases xQ:o'=.dead
     ·subst xQ;trivial
     ·exact hr.mono hle (nb.old (CF H hi ⟨o',dS,xQ⟩))
    ·exact ⟨.dead,e,trivial⟩
  ·intro i j s t hi hj bD hm hl
   unfold aK.add at hi hj
   split at hi <;> split at hj
   ·omega
   ·rename_i e1 e2
    cases hi
    have:=bw j t hj hl
    omega
   ·rename_i e1 e2
    cases hj
    have:=bw i s hi hm.live
    omega
   ·exact H.inj i j s t hi hj bD (jE i (H.lt hi) hm) (zS j (H.lt hj) hl)
  ·intro i s hi
   unfold aK.add at hi
   split at hi
   ·cases hi;exact he
   ·exact H.aY i s hi
 ·exact {
   ext:=hle
   len:=by simp;omega
   jQ:=fun i s hi=>H.lt hi
   kinds:=jE
   fresh:=by
    intro i s hi hn
    unfold aK.add at hi
    split at hi
    ·rename_i e;cases hi;exact ⟨by omega,.inl (by omega)⟩
    ·rw [hn] at hi;cases hi
   ji:=by rw [nb.size];omega
   iK:=fun k cj _=>nb.old cj
   os:=nb.os
   tape:=nb.tape
   output:=nb.output }
structure nj (w:World) (k:Nat) (b:Obj) (w':World):Prop where
 here:w'.heap[k]?=some b
 other:∀j,j≠k→w'.heap[j]?=w.heap[j]?
 size:w'.heap.size=w.heap.size
 os:w'.os=w.os
 tape:w'.tape=w.tape
 output:w'.output=w.output
theorem nj.row {w:World} {g:Nat} {c:Array Value} {e:TypeId} {fr:Nat×Nat} (hg:w.heap[g]?=some (.cells c e fr)) (c':Array Value):nj w g (.cells c' e fr) (w.setRow g c') where
 here:=by simp [World.setRow,Array.getElem?_modify,hg]
 other:=by intro j hj;simp [World.setRow,Array.getElem?_modify,Ne.symm hj]
 size:=by simp [World.setRow]
 os:=rfl
 tape:=rfl
 output:=rfl
theorem a9.set {P:Program} {ρ:aK} {h:ae} {w w':World} {b:Obj} {i:Nat} {r:RI} {o:aj} (H:a9 P ρ h w) (hi:ρ i=some r) (hm:cF h i) (sb:nj w r.bw b w')
  (ho:lM ρ w' r o):a9 P ρ (h.set i o) w'∧Tr ρ h w ρ (h.set i o) w':=by
 have aD:=H.lt hi
 have jE:∀j,cF (h.set i o) j→cF h j:=by
  intro j hj
  by_cases e:j=i
  ·subst e;exact hm
  ·unfold cF at hj⊢
   rw [getElem?_set_ne (Ne.symm e)] at hj
   exact hj
 have zS:∀j,fq (h.set i o) j→fq h j:=by
  intro j hj
  by_cases e:j=i
  ·subst e;exact hm.live
  ·unfold fq at hj⊢
   rw [getElem?_set_ne (Ne.symm e)] at hj
   exact hj
 constructor
 ·constructor
  ·intro j s hj
   by_cases e:j=i
   ·subst e
    rw [hi] at hj
    cases hj
    exact ⟨o,by rw [List.getElem?_set_self aD],ho⟩
   ·obtain ⟨o',dS,hr⟩:=H.obj j s hj
    refine ⟨o',by rw [getElem?_set_ne (Ne.symm e)];exact dS,?_⟩
    by_cases xQ:o'=.dead
    ·subst xQ;trivial
    ·refine hr.mono (.refl _) (sb.other _ ?_)
     intro hb
     exact e (H.inj i j r s hi hj hb.symm hm ⟨o',dS,xQ⟩).symm
  ·intro j k s t hj hk bD gp hl
   exact H.inj j k s t hj hk bD (jE j gp) (zS k hl)
  ·exact H.aY
 ·exact {
   ext:=.refl _
   len:=by simp
   jQ:=fun j s hj=>H.lt hj
   kinds:=fun j _ hj=>jE j hj
   fresh:=fun j s h1 h2=>by rw [h1] at h2;cases h2
   ji:=by rw [sb.size];exact le_refl _
   iK:=fun k _ dh=>sb.other k fun e=>dh i r hi e.symm hm
   os:=sb.os
   tape:=sb.tape
   output:=sb.output }
theorem a9.move {P:Program} {ρ:aK} {h:ae} {w w':World} {b:Obj} {i:Nat} {r:RI} {o:aj} (H:a9 P ρ h w) (hi:ρ i=some r) (hm:cF h i) (sb:nj w r.bw b w')
  (ho:lM (ρ.add h.length r) w' r o):a9 P (ρ.add h.length r) (h.set i .dead++[o]) w'∧Tr ρ h w (ρ.add h.length r) (h.set i .dead++[o]) w':=by
 have aD:=H.lt hi
 have hle:=aK.wJ (r:=r) H.none
 have get:∀j,j<h.length→j≠i→(h.set i .dead++[o])[j]?=h[j]?:=by
  intro j hj e
  rw [getElem?_append_left (by simpa using hj),getElem?_set_ne (Ne.symm e)]
 have Re:(h.set i .dead++[o])[i]?=some .dead:=by
  rw [getElem?_append_left (by simpa using aD),List.getElem?_set_self aD]
 have jE:∀j,j<h.length→cF (h.set i .dead++[o]) j→cF h j∧j≠i:=by
  intro j hj gp
  have bp:j≠i:=by
   intro e
   subst e
   unfold cF at gp
   rw [Re] at gp
   rcases gp with ⟨_,_,h1⟩ | ⟨_,h1⟩ | ⟨_,_,_,h1⟩ | ⟨_,_,h1⟩ | ⟨_,_,_,h1⟩ | ⟨_,_,_,_,h1⟩ <;> cases h1
  refine ⟨?_,bp⟩
  unfold cF at gp⊢
  rw [get j hj bp] at gp
  exact gp
 have zS:∀j,j<h.length→fq (h.set i .dead++[o]) j→fq h j∧j≠i:=by
  intro j hj gp
  have bp:j≠i:=by
   intro e
   subst e
   obtain ⟨o',h1,h2⟩:=gp
   rw [Re] at h1
   cases h1
   exact h2 rfl
  refine ⟨?_,bp⟩
  unfold fq at gp⊢
  rw [get j hj bp] at gp
  exact gp
 constructor
 ·constructor
  ·intro j s hj
   unfold aK.add at hj
   split at hj
   ·rename_i e
    subst e
    cases hj
    exact ⟨o,by rw [List.getElem?_append_right (by simp)];simp,ho⟩
   ·by_cases e:j=i
    ·subst e
     exact ⟨.dead,Re,trivial⟩
    ·obtain ⟨o',dS,hr⟩:=H.obj j s hj
     refine ⟨o',by rw [get j (H.lt hj) e];exact dS,?_⟩
     by_cases xQ:o'=.dead
     ·subst xQ;trivial
     ·refine hr.mono hle (sb.other _ ?_)
      intro hb
      exact e (H.inj i j r s hi hj hb.symm hm ⟨o',dS,xQ⟩).symm
  ·intro j k s t hj hk bD gp hl
   unfold aK.add at hj hk
   split at hj <;> split at hk
   ·omega
   ·cases hj
    obtain ⟨h1,h2⟩:=zS k (H.lt hk) hl
    exact absurd (H.inj i k r t hi hk bD hm h1).symm h2
   ·cases hk
    obtain ⟨h1,h2⟩:=jE j (H.lt hj) gp
    exact absurd (H.inj j i s r hj hi bD h1 hm.live) h2
   ·exact H.inj j k s t hj hk bD (jE j (H.lt hj) gp).1 (zS k (H.lt hk) hl).1
  ·intro j s hj
   unfold aK.add at hj
   split at hj
   ·cases hj;exact H.aY i r hi
   ·exact H.aY j s hj
 ·exact {
   ext:=hle
   len:=by simp
   jQ:=fun j s hj=>H.lt hj
   kinds:=fun j hj gp=>(jE j hj gp).1
   fresh:=by
    intro j s hj hn
    unfold aK.add at hj
    split at hj
    ·rename_i e;cases hj;exact ⟨by omega,.inr ⟨i,r,hi,rfl,hm⟩⟩
    ·rw [hn] at hj;cases hj
   ji:=by rw [sb.size];exact le_refl _
   iK:=fun k _ dh=>sb.other k fun e=>dh i r hi e.symm hm
   os:=sb.os
   tape:=sb.tape
   output:=sb.output }
end
section
inductive pK where
 | load (agg:Bool) (n:Nat) (a:Operand)
 | yS (x:Operand)
 | lookup (ok:Bool) (zero:Value) (m k:Operand)
 | Kh (kd:IntKind) (ok:Bool) (zero:Value) (m k:Operand)
 | Kg (g:gf) (ok:Bool) (zero:Value) (m k:Operand)
 | entry (it:Operand)
 | obj (x:Operand)
inductive ng where
 | alloc (e:TypeId) (zs:List Value)
 | nX (e:TypeId) (n:Nat) (zs:List Value) (parts:List (Nat×Nat×Operand))
 | make (e:TypeId) (bytes:Nat) (zs:List Value) (l c:Operand)
 | pG (g:gf)
inductive pJ where
 | fl (a:ng)
 | store (n:Nat) (a v:Operand)
 | box (e:TypeId) (x:Operand)
 | alloc (e:TypeId) (zs:List Value)
 | nX (e:TypeId) (n:Nat) (zs:List Value) (parts:List (Nat×Nat×Operand))
 | make (e:TypeId) (bytes:Nat) (zs:List Value) (l c:Operand)
 | app (e:TypeId) (aY bytes:Nat) (s x:Operand)
 | mkMap
 | Ko (kd:IntKind)
 | pG (g:gf)
 | TD (g:gf) (m k v:Operand)
 | D7 (g:gf) (m k:Operand)
 | VO (x:Operand)
 | next (it:Operand)
 | die
 | TE (kd:IntKind) (m k v:Operand)
 | TC (m k v:Operand)
 | copy (d s:Operand)
def aP (h:ae) (i:Nat):Option (List Value):=
 match h[i]? with
 | some (.ro _ xs)=>some xs
 | some (.arr _ xs)=>some xs
 | _=>none
def af (agg:Bool) (n:Nat) (h:ae) (a:Value):Option Value:=
 match a with
 | .pointer (some ⟨i,o,none⟩)=>(aP h i).bind fun xs=>b9 agg o n xs
 | _=>none
def DH:Value→Option UInt8
 | .int .u8 n=>some (UInt8.ofNat n.toNat)
 | _=>none
def lh (h:ae) (aY:Nat) (x:Value):Option (List Value):=
 match x with
 | .slice none 0 0=>some []
 | .slice (some ⟨i,o,some _⟩) n _=>
  if n=0 then some [] else (aP h i).bind fun xs=>if o+n*aY≤xs.length then some ((xs.drop o).take (n*aY)) else none
 | _=>none
def sv (h:ae) (x:Value):Option Value:=(lh h 1 x).bind fun cs=>(cs.mapM DH).map S
def vR (k:ByteArray):List (ByteArray×Value)→Option Value
 | []=>none
 | (k',v)::es=>if k=k' then some v else vR k es
def tQ (k:ByteArray) (v:Value):List (ByteArray×Value)→List (ByteArray×Value)
 | []=>[(k,v)]
 | (k',v')::es=>if k=k' then (k',v)::es else (k',v')::tQ k v es
def gS (k:Int):List (Int×Value)→Option Value
 | []=>none
 | (k',v)::es=>if k=k' then some v else gS k es
def oR (k:Int) (v:Value):List (Int×Value)→List (Int×Value)
 | []=>[(k,v)]
 | (k',v')::es=>if k=k' then (k',v)::es else (k',v')::oR k v es
def yk (kd:IntKind) (ok:Bool) (zero:Value) (h:ae) (m k:Value):Option Value:=
 match m,k with
 | .map (some i),.int Cy k=>
  match h[i]? with
  | some (.fm nW es)=>if Cy=kd∧nW=kd then some (if ok then .tuple #[(gS k es).getD zero,.bool (gS k es).isSome] else (gS k es).getD zero) else none
  | _=>none
 | _,_=>none
def yo:Value→Value→Bool
 | .int k a,.int k' b=>decide (k=k')&&decide (a=b)
 | _,_=>false
def uK:List Value→List Value→Bool
 | [],[]=>true
 | a::vJ,b::bs=>yo a b&&uK vJ bs
 | _,_=>false
def np:Value→Value→Bool
 | .string a,.string b=>decide (bytes a=bytes b)
 | .agg vJ,.agg bs=>uK vJ.toList bs.toList
 | a,b=>yo a b
def mm (k:Value):List (Nat×Value×Value)→Option Nat
 | []=>none
 | (_,k',_)::es=>if np k k'=true then some 0 else (mm k es).map (·+1)
def rS (k:Value) (es:List (Nat×Value×Value)):Option Value:=(mm k es).bind fun j=>(es[j]?).map fun e=>e.2.2
def mo (c:Nat) (k v:Value) (es:List (Nat×Value×Value)):List (Nat×Value×Value):=
 match mm k es with
 | some j=>es.modify j fun e=>(e.1,k,v)
 | none=>es++[(c,k,v)]
def pg (c:Nat) (k:Value) (es:List (Nat×Value×Value)):Nat:=match mm k es with | some _=>c | none=>c+1
def rP (k:Value) (es:List (Nat×Value×Value)):List (Nat×Value×Value):=
 match mm k es with
 | some j=>es.eraseIdx j
 | none=>es
def Ao (g:gf) (ok:Bool) (zero:Value) (h:ae) (m k:Value):Option Value:=
 match m with
 | .map (some i)=>
  match h[i]? with
  | some (.cU g' _ es)=>if g'=g∧fz g k=true then some (if ok then .tuple #[(rS k es).getD zero,.bool (rS k es).isSome] else (rS k es).getD zero) else none
  | _=>none
 | _=>none
def Cr (g:gf) (h:ae) (m k v:Value):Option ae:=
 match m with
 | .map (some i)=>
  match h[i]? with
  | some (.cU g' c es)=>if g'=g∧fz g k=true∧gr v=true then some (h.set i (.cU g (pg c k es) (mo c k v es))) else none
  | _=>none
 | _=>none
def E4 (g:gf) (h:ae) (m k:Value):Option ae:=
 match m with
 | .map (some i)=>
  match h[i]? with
  | some (.cU g' c es)=>if g'=g∧fz g k=true then some (h.set i (.cU g c (rP k es))) else none
  | _=>none
 | _=>none
def Cs (h:ae) (x:Value):Option (Value×ae):=
 match x with
 | .map (some i)=>
  match h[i]? with
  | some (.cU _ c _)=>some (.pointer (some ⟨h.length,0,none⟩),h++[.iter i c [] c])
  | _=>none
 | _=>none
def Am (h:ae) (it:Value):Option Value:=
 match it with
 | .pointer (some ⟨j,0,none⟩)=>
  match h[j]? with
  | some (.iter i _ seen last)=>
   match h[i]?,seen.getLast? with
   | some (.cU _ c es),some b=>if c=last then (es.find? fun e=>e.1==b).map fun e=>.tuple #[e.2.1,e.2.2] else none
   | _,_=>none
  | _=>none
 | _=>none
def tK:Value→Bool
 | .bool _ | .int .. | .string _ | .nilFunc | .nilIface=>true
 | .pointer none | .map none=>true
 | .slice none 0 0=>true
 | _=>false
def Em:gf→Value
 | .int k=>.int k 0
 | .str=>.bool true
 | .ints n k=>.agg #[.int k n]
def pU:aj→Option Value
 | .arr e xs=>if xs.all tK then some (.agg (.int .i64 e::xs).toArray) else none
 | .cU g c es=>if c=0∧es.isEmpty=true then some (.tuple #[Em g]) else none
 | _=>none
def Ap:Value→Option Nat
 | .pointer (some ⟨i,_,none⟩)=>some i
 | .slice (some ⟨i,_,_⟩) _ _=>some i
 | .map (some i)=>some i
 | _=>none
def eC (h:ae) (x:Value):Option Value:=(Ap x).bind fun i=>(h[i]?).bind pU
def AL (h:ae) (it:Value):Option (List (Value×ae)):=
 match it with
 | .pointer (some ⟨j,0,none⟩)=>
  match h[j]? with
  | some (.iter i kG seen last)=>
   match h[i]? with
   | some (.cU _ c es)=>
    if (!seen.isEmpty&& !es.isEmpty&&es.all fun e=>decide (last≤e.1))=true then none else
    let left:=es.filter fun e=> !seen.contains e.1
    let old:=left.filter fun e=>decide (e.1<kG)
    let new:=left.filter fun e=>decide (kG≤e.1)
    some ((if old.isEmpty=true then [(.tuple #[.bool false],h)] else [])++(old++new).map fun e=>(.tuple #[.bool true,e.2.1,e.2.2],h.set j (.iter i kG (seen++[e.1]) c)))
   | _=>none
  | _=>none
 | _=>none
def JX (ok:Bool) (zero:Value) (h:ae) (m k:Value):Option Value:=
 match m,k with
 | .map (some i),.string k=>
  match h[i]? with
  | some (.smap es)=>some (if ok then .tuple #[(vR k es).getD zero,.bool (vR k es).isSome] else (vR k es).getD zero)
  | _=>none
 | _,_=>none
def fR (o:pK) (g:Operand→Value) (h:ae):Option Value:=
 match o with
 | .load agg n a=>af agg n h (g a)
 | .yS x=>sv h (g x)
 | .lookup ok zero m k=>JX ok zero h (g m) (g k)
 | .Kh kd ok zero m k=>yk kd ok zero h (g m) (g k)
 | .Kg kd ok zero m k=>Ao kd ok zero h (g m) (g k)
 | .entry it=>Am h (g it)
 | .obj x=>eC h (g x)
def q9 (n:Nat) (h:ae) (a v:Value):Option ae:=
 match a with
 | .pointer (some ⟨i,o,none⟩)=>
  match h[i]? with
  | some (.arr e xs)=>if gr v∧(cW v).length=n∧o+n≤xs.length then some (h.set i (.arr e (setAt xs o (cW v)))) else none
  | _=>none
 | _=>none
def CD (h:ae):Value:=.pointer (some ⟨h.length,0,none⟩)
def sl (e:TypeId) (i o n:Nat):Value:=.slice (some ⟨i,o,some e⟩) n n
def bm (e:TypeId) (h:ae) (x:Value):Option (Value×ae):=if gr x then some (CD h,h++[.arr e (cW x)]) else none
def gY (zs:List Value) (n:Nat):List Value:=(List.replicate n zs).flatten
def dK (e:TypeId) (n:Nat) (zs:List Value) (h:ae) (ps:List (Nat×Nat×Value)):Option (Value×ae):=
 (rQ (gY zs n) ps).map fun cs=>(sl e h.length 0 n,h++[.arr e cs])
def mb (e:TypeId) (bytes:Nat) (zs:List Value) (h:ae) (l c:Value):Option (Value×ae):=
 match l,c with
 | .int _ l,.int _ c=>if 0≤l∧l≤c∧(bytes:Int)*c≤281474976710656∧c≤9223372036854775807 then some (sl e h.length 0 l.toNat,h++[.arr e (gY zs l.toNat)]) else none
 | _,_=>none
def qq:Value→Option Nat
 | .slice none 0 0=>some 0
 | .slice (some _) n _=>some n
 | _=>none
def dY (e:TypeId) (aY bytes:Nat) (h:ae) (s x:Value):Option (Value×ae):=
 match lh h aY x,qq x with
 | some news,some m=>
  match s with
  | .slice none 0 0=>
   if m=0 then some (s,h) else
   if m*bytes≤140737488355328∧m≤maxLen then some (sl e h.length 0 m,h++[.arr e news]) else none
  | .slice (some ⟨i,0,some e'⟩) n _=>
   match h[i]? with
   | some (.arr e'' xs)=>
    if e'=e∧e''=e∧xs.length=n*aY∧(n+m)*bytes≤140737488355328∧n+m≤maxLen then
     if m=0 then some (s,h) else some (sl e h.length 0 (n+m),h.set i .dead++[.arr e (xs++news)])
    else none
   | _=>none
  | _=>none
 | _,_=>none
def SV (h:ae) (m k v:Value):Option ae:=
 match m,k with
 | .map (some i),.string k=>
  match h[i]? with
  | some (.smap es)=>some (h.set i (.smap (tQ k v es)))
  | _=>none
 | _,_=>none
def E6 (kd:IntKind) (h:ae) (m k v:Value):Option ae:=
 match m,k with
 | .map (some i),.int Cy k=>
  match h[i]? with
  | some (.fm nW es)=>if Cy=kd∧nW=kd then some (h.set i (.fm kd (oR k v es))) else none
  | _=>none
 | _,_=>none
def TQ (kd:IntKind) (h:ae) (m k v:Value):Option (Value×ae):=(E6 kd h m k v).map fun h'=>(undef,h')
def CE (kd:gf) (h:ae) (m k v:Value):Option (Value×ae):=(Cr kd h m k v).map fun h'=>(undef,h')
def TP (kd:gf) (h:ae) (m k:Value):Option (Value×ae):=(E4 kd h m k).map fun h'=>(.tuple #[],h')
def Cq (kd:gf) (h:ae):Option (Value×ae):=some (.map (some h.length),h++[.cU kd 0 []])
def ayF (kd:IntKind) (h:ae):Option (Value×ae):=some (.map (some h.length),h++[.fm kd []])
def aF (n:Nat) (h:ae) (a v:Value):Option (Value×ae):=(q9 n h a v).map fun h'=>(undef,h')
def aV (e:TypeId) (zs:List Value) (h:ae):Option (Value×ae):=some (CD h,h++[.arr e zs])
def SQ (h:ae) (d s:Value):Option (Value×ae):=
 match qq d,qq s,lh h 1 s with
 | some n,some m,some cs=>
  if Nat.min m n=0 then some (.int .i64 0,h) else
  match d with
  | .slice (some ⟨i,o,some _⟩) _ _=>
   match h[i]? with
   | some (.arr e xs)=>if o+Nat.min m n≤xs.length then some (.int .i64 (Nat.min m n:Nat),h.set i (.arr e (setAt xs o (cs.take (Nat.min m n))))) else none
   | _=>none
  | _=>none
 | _,_,_=>none
def gw (o:pJ) (g:Operand→Value) (h:ae):Option (Value×ae):=
 match o with
 | .fl a=>match a with
  | .alloc e zs=>some (CD h,h++[.arr e zs])
  | .nX e n zs ps=>dK e n zs h (ps.map fun (o,s,x)=>(o,s,g x))
  | .make e bytes zs l c=>mb e bytes zs h (g l) (g c)
  | .pG kd=>some (.map (some h.length),h++[.cU kd 0 []])
 | .store n a v=>(q9 n h (g a) (g v)).map fun h'=>(undef,h')
 | .box e x=>bm e h (g x)
 | .alloc e zs=>some (CD h,h++[.arr e zs])
 | .nX e n zs ps=>dK e n zs h (ps.map fun (o,s,x)=>(o,s,g x))
 | .make e bytes zs l c=>mb e bytes zs h (g l) (g c)
 | .app e aY bytes s x=>dY e aY bytes h (g s) (g x)
 | .mkMap=>some (.map (some h.length),h++[.smap []])
 | .TC m k v=>(SV h (g m) (g k) (g v)).map fun h'=>(undef,h')
 | .Ko kd=>some (.map (some h.length),h++[.fm kd []])
 | .die=>none
 | .next _=>none
 | .pG kd=>some (.map (some h.length),h++[.cU kd 0 []])
 | .TD kd m k v=>(Cr kd h (g m) (g k) (g v)).map fun h'=>(undef,h')
 | .D7 kd m k=>(E4 kd h (g m) (g k)).map fun h'=>(.tuple #[],h')
 | .VO x=>Cs h (g x)
 | .TE kd m k v=>(E6 kd h (g m) (g k) (g v)).map fun h'=>(undef,h')
 | .copy d s=>SQ h (g d) (g s)
def ng.Gc:ng→pJ
 | .alloc e zs=>.alloc e zs
 | .nX e n zs ps=>.nX e n zs ps
 | .make e b zs l c=>.make e b zs l c
 | .pG g=>.pG g
def pJ.L0:pJ→Option ng
 | .alloc e zs=>some (.alloc e zs)
 | .nX e n zs ps=>some (.nX e n zs ps)
 | .make e b zs l c=>some (.make e b zs l c)
 | .pG g=>some (.pG g)
 | _=>none
def lQ (a:ng) (g:Operand→Value):Option ((Nat→Value)×aj):=
 match a with
 | .alloc e zs=>some (fun i=>.pointer (some ⟨i,0,none⟩),.arr e zs)
 | .nX e n zs ps=>(rQ (gY zs n) (ps.map fun (o,s,x)=>(o,s,g x))).map fun cs=>(fun i=>sl e i 0 n,.arr e cs)
 | .make e bytes zs l c=>
  match g l,g c with
  | .int _ l,.int _ c=>if 0≤l∧l≤c∧(bytes:Int)*c≤281474976710656∧c≤9223372036854775807 then some (fun i=>sl e i 0 l.toNat,.arr e (gY zs l.toNat)) else none
  | _,_=>none
 | .pG g=>some (fun i=>.map (some i),.cU g 0 [])
theorem afM (a:ng) (g:Operand→Value) (h:ae):gw (.fl a) g h=(lQ a g).map fun p=>(p.1 h.length,h++[p.2]):=by
 cases a with
 | alloc e zs=>rfl
 | nX e n zs ps=>simp only [gw,lQ,dK,Option.map_map];rfl
 | make e b zs l c=>
  simp only [gw,lQ,mb]
  split
  ·split <;> rfl
  ·rfl
 | pG g=>rfl
theorem ayR (a:ng) (g:Operand→Value) (h:ae):gw a.Gc g h=gw (.fl a) g h:=by cases a <;> rfl
theorem anA {e:pJ} {a:ng} (h:e.L0=some a):a.Gc=e:=by
 cases e <;> simp [pJ.L0] at h <;> subst h <;> rfl
theorem Pj {a:ng} {g:Operand→Value} {V:Nat→Value} {o:aj} (h:lQ a g=some (V,o)):∀i,Ap (V i)=some i:=by
 cases a with
 | pG g=>simp [lQ] at h;obtain ⟨rfl,_⟩:=h;intro i;rfl
 | alloc e zs=>simp [lQ] at h;obtain ⟨rfl,_⟩:=h;intro i;rfl
 | nX e n zs ps=>simp only [lQ,map_eq_some_iff,Prod.mk.injEq] at h;obtain ⟨_,_,rfl,_⟩:=h;intro i;rfl
 | make e b zs l c=>
  simp only [lQ] at h
  split at h
  ·split at h
   ·simp at h;obtain ⟨rfl,_⟩:=h;intro i;rfl
   ·cases h
  ·cases h
def Db (P:Program) (t:TypeId):Option Value:=
 match P.info? t with
 | some i=>match i.zero with
  | some z=>if BD z then some z else none
  | none=>none
 | none=>none
def isString (P:Program) (t:TypeId):Bool:=match P.underlying t with | some .string=>true | _=>false
def Au (P:Program) (t:TypeId):Option IntKind:=match P.underlying t with | some (.int k)=>some k | _=>none
def Bg:Value→Bool
 | .agg cs=>cs.toList.all BD
 | v=>mL v
def Mq (P:Program) (t:TypeId):Option Value:=
 match P.info? t with
 | some i=>match i.zero with
  | some z=>if Bg z then some z else none
  | none=>none
 | none=>none
def rU (P:Program) (t:TypeId):Option gf:=
 match P.underlying t with
 | some (.map kt et)=>
  match P.underlying et with
  | some (.int _)=>none
  | _=>
   match P.underlying kt with
   | some .string=>some .str
   | some (.int k)=>some (.int k)
   | some (.array n e)=>
    match P.underlying e with
    | some (.int k)=>if (P.cellsOf e==1&&P.cellsOf kt==n&& !(P.types.size==0))=true then some (.ints n k) else none
    | _=>none
   | _=>none
 | _=>none
def vK (P:Program):Op→Option pK
 | .load t a=>
  match P.underlying t with
  | some d=>if jd P t&&(oO d||P.cellsOf t==1) then some (.load (oO d) (P.cellsOf t) a) else none
  | none=>none
 | .entry it=>some (.entry it)
 | .convert s d x=>
  match P.underlying s,P.underlying d with
  | some (.slice e),some .string=>match P.underlying e with | some (.int .u8)=>some (.yS x) | _=>none
  | _,_=>none
 | .lookup t m k ok=>
  match rU P t with
  | some g=>match P.underlying t with
   | some (.map _ et)=>(Mq P et).map fun z=>.Kg g ok z m k
   | _=>none
  | none=>
  match P.underlying t with
  | some (.map kt et)=>if isString P kt then (Db P et).map fun z=>.lookup ok z m k else (Au P kt).bind fun kd=>(Db P et).map fun z=>.Kh kd ok z m k
  | _=>none
 | _=>none
def iU (P:Program):Op→Option pJ
 | .store t a v=>if jd P t then some (.store (P.cellsOf t) a v) else none
 | .box e x=>some (.box e x)
 | .alloc e=>(zeroOf P e).map fun zs=>.alloc e zs
 | .buildSlice t n ps=>
  match P.underlying t with
  | some (.slice e)=>
   match zeroOf P e with
   | some zs=>if n*P.cellsOf e≤16777216∧P.cellsOf e≠0 then some (.nX e n zs (ps.toList.map fun (i,x)=>(i*P.cellsOf e,P.cellsOf e,x))) else none
   | none=>none
  | _=>none
 | .makeSlice t l c=>
  match P.underlying t with
  | some (.slice e)=>
   match zeroOf P e with
   | some zs=>some (.make e (P.bytesOf e) zs l c)
   | none=>none
  | _=>none
 | .call { callee:=.builtin .append,args,argTypes }=>
  match args.toList,argTypes.toList with
  | [s,x],[t,t']=>
   if t=t' then
    match P.underlying t with
    | some (.slice e)=>
     match zeroOf P e with
     | some _=>some (.app e (P.cellsOf e) (P.bytesOf e) s x)
     | none=>none
    | _=>none
   else none
  | _,_=>none
 | .makeMap t none=>
  match rU P t with
  | some g=>some (.pG g)
  | none=>
  match P.underlying t with
  | some (.map kt _)=>some (match Au P kt with | some kd=>.Ko kd | none=>.mkMap)
  | _=>some .mkMap
 | .mapUpdate t m k v | .insert t m k v=>
  match rU P t with
  | some g=>some (.TD g m k v)
  | none=>
  match P.underlying t with
  | some (.map kt _)=>if isString P kt then some (.TC m k v) else (Au P kt).map fun kd=>.TE kd m k v
  | _=>none
 | .call { callee:=.builtin .delete,args,argTypes }=>
  match args.toList,argTypes[0]? with
  | [m,k],some t=>(rU P t).map fun g=>.D7 g m k
  | _,_=>none
 | .call { callee:=.builtin .copy,args,argTypes }=>
  match args.toList,argTypes.toList with
  | [d,s],[t,_]=>
   match P.underlying t with
   | some (.slice e)=>if (P.info? e).map (·.size)=some 1 then some (.copy d s) else none
   | _=>none
  | _,_=>none
 | .range t x=>(rU P t).map fun _=>.VO x
 | .next it false=>some (.next it)
 | .panic _ | .makeInterface .. =>some .die
 | _=>none
end
section
theorem aFv {ρ:aK} {i o n:Nat} {e:TypeId} {y:Value} (h:ax ρ (.slice (some ⟨i,o,some e⟩) n n) y):
  ∃r o' c',ρ i=some r∧r.elem=e∧y=.slice (some ⟨r.bw,o',none⟩) n c'∧(o'=r.sh+o∨(n=0∧0<o∧c'=0))∧n≤c'∧c'≤maxLen∧o'+c'*r.aY≤r.size:=by
 cases h with
 | slice hr a b c d=>exact ⟨_,_,_,hr,rfl,rfl,a,b,c,d⟩
theorem ax.down {ρ av:aK} (hle:ρ.le av) {x y0:Value} (h0:ax ρ x y0):∀{y:Value},ax av x y→ax ρ x y:=by
 have same:∀{i:Nat} {r r':RI},ρ i=some r→av i=some r'→r'=r:=fun h h'=>by rw [hle _ _ h] at h';cases h';rfl
 induction h0 with
 | bool b=>intro y h;cases h;exact .bool b
 | int k n=>intro y h;cases h;exact .int k n
 | string s=>intro y h;cases h;exact .string s
 | uR=>intro y h;cases h;exact .uR
 | rl=>intro y h;cases h;exact .rl
 | uQ=>intro y h;cases h;exact .uQ
 | nilFunc=>intro y h;cases h;exact .nilFunc
 | nilIface=>intro y h;cases h;exact .nilIface
 | ptr hi=>intro y h;cases h with | ptr hO=>cases same hi hO;exact .ptr hi
 | slice hi a b c d=>
  intro y h
  obtain ⟨r',o',c',h1,h2,rfl,h3,h4,h5,h6⟩:=aFv h
  cases same hi h1
  exact .slice hi h3 h4 h5 h6
 | void a=>intro y h;cases h;exact .void _
 | map hi=>intro y h;cases h with | map hO=>cases same hi hO;exact .map hi
 | yield hi=>intro y h;cases h with | yield hO=>cases same hi hO;exact .yield hi
 | func f s1 s2 _ _ Aq Cu=>
  intro y h
  cases h with
  | func _ t1 t2 q1 q2=>
   refine .func f t1 t2 (fun k x x' e e'=>?_) (fun k x x' e e'=>?_)
   ·obtain ⟨z,hz⟩:∃z,_=some z:=⟨_,getElem?_eq_getElem (by rw [←s1];exact (Array.getElem?_eq_some_iff.1 e).1)⟩
    exact Aq k x z e hz (q1 k x x' e e')
   ·obtain ⟨z,hz⟩:∃z,_=some z:=⟨_,getElem?_eq_getElem (by rw [←s2];exact (Array.getElem?_eq_some_iff.1 e).1)⟩
    exact Cu k x z e hz (q2 k x x' e e')
 | agg s1 hc _ ih=>
  intro y h
  cases h with
  | agg t1 _ q1=>
   refine .agg t1 hc (fun k x x' e e'=>?_)
   obtain ⟨z,hz⟩:∃z,_=some z:=⟨_,getElem?_eq_getElem (by rw [←s1];exact (Array.getElem?_eq_some_iff.1 e).1)⟩
   exact ih k x z e hz (q1 k x x' e e')
 | any v=>intro y _;exact .any y
 | tuple s1 _ ih=>
  intro y h
  cases h with
  | tuple t1 q1=>
   refine .tuple t1 (fun k x x' e e'=>?_)
   obtain ⟨z,hz⟩:∃z,_=some z:=⟨_,getElem?_eq_getElem (by rw [←s1];exact (Array.getElem?_eq_some_iff.1 e).1)⟩
   exact ih k x z e hz (q1 k x x' e e')
theorem gv.down {ρ av:aK} (hle:ρ.le av) {c c':Array Value} {sh sh':Nat} {xs:List Value} (h0:gv ρ c sh xs) (h:gv av c' sh' xs):gv ρ c' sh' xs:=by
 intro j x hj
 obtain ⟨_,y0,_,r0⟩:=h0 j x hj
 obtain ⟨c1,y,hy,r⟩:=h j x hj
 exact ⟨c1,y,hy,r0.down hle r⟩
theorem lM.down {ρ av:aK} (hle:ρ.le av) {w w':World} {r:RI} {o:aj} (h0:lM ρ w r o) (h:lM av w' r o):lM ρ w' r o:=by
 cases o with
 | ro e xs=>
  obtain ⟨_,_,_,_,_,_,b4⟩:=h0
  obtain ⟨a1,c,t,fr,a2,a3,a4⟩:=h
  exact ⟨a1,c,t,fr,a2,a3,b4.down hle a4⟩
 | arr e xs=>
  obtain ⟨_,_,_,_,_,b4⟩:=h0
  obtain ⟨a1,a0,c,a2,a3,a4⟩:=h
  exact ⟨a1,a0,c,a2,a3,b4.down hle a4⟩
 | smap es=>
  obtain ⟨_,_,_,_,b3⟩:=h0
  obtain ⟨aJ,clock,a1,a2,a3⟩:=h
  refine ⟨aJ,clock,a1,a2,fun j k v hj=>?_⟩
  obtain ⟨_,_,_,r0⟩:=b3 j k v hj
  obtain ⟨en,e1,e2,e3⟩:=a3 j k v hj
  exact ⟨en,e1,e2,r0.down hle e3⟩
 | fm kd es=>
  obtain ⟨_,_,_,_,b3⟩:=h0
  obtain ⟨aJ,clock,a1,a2,a3⟩:=h
  refine ⟨aJ,clock,a1,a2,fun j k v hj=>?_⟩
  obtain ⟨_,_,_,r0⟩:=b3 j k v hj
  obtain ⟨en,e1,e2,e3⟩:=a3 j k v hj
  exact ⟨en,e1,e2,r0.down hle e3⟩
 | cU g c es=>
  obtain ⟨_,_,_,_,b3⟩:=h0
  obtain ⟨a0,aJ,a1,a2,a3⟩:=h
  refine ⟨a0,aJ,a1,a2,fun j b k v hj=>?_⟩
  obtain ⟨_,_,_,_,_,r0⟩:=b3 j b k v hj
  obtain ⟨e0,en,e1,e2,ze,e3⟩:=a3 j b k v hj
  exact ⟨e0,en,e1,e2,ze,r0.down hle e3⟩
 | iter m s n l=>
  obtain ⟨_,rm0,b1,_⟩:=h0
  obtain ⟨a0,rm,a1,a2⟩:=h
  have:=hle _ _ b1
  rw [a1] at this
  cases this
  exact ⟨a0,rm0,b1,a2⟩
 | loop c ls vs=>
  obtain ⟨_,_,_,_,_,_,_,_,b8⟩:=h0
  obtain ⟨rec,a1,a2,a3,a4,a5,a6,a7,a8⟩:=h
  exact ⟨rec,a1,a2,a3,a4,a5,a6,a7,fun t=>(b8 t).down hle (a8 t)⟩
 | dead=>trivial
theorem tK.rel {ρ av:aK} {v v':Value} (h:tK v=true) (hv:ax ρ v v'):ax av v v':=by
 unfold tK at h
 split at h
 ·cases hv;exact .bool _
 ·cases hv;exact .int _ _
 ·cases hv;exact .string _
 ·cases hv;exact .nilFunc
 ·cases hv;exact .nilIface
 ·cases hv;exact .uR
 ·cases hv;exact .uQ
 ·cases hv;exact .rl
 ·cases h
theorem a9.Jc {P:Program} {ρ:aK} {h:ae} {w:World} (H:a9 P ρ h w) (os:ae):a9 P ρ (h++os) w where
 obj i r hi:=by
  obtain ⟨o,ho,hr⟩:=H.obj i r hi
  exact ⟨o,by rw [getElem?_append_left (H.lt hi)];exact ho,hr⟩
 inj i j r s hi hj hb hm hl:=by
  refine H.inj i j r s hi hj hb ?_ ?_
  ·unfold cF at hm⊢;rw [getElem?_append_left (H.lt hi)] at hm;exact hm
  ·unfold fq at hl⊢;rw [getElem?_append_left (H.lt hj)] at hl;exact hl
 aY:=H.aY
theorem Tr.Jc {P:Program} {ρ:aK} {h:ae} {w:World} (H:a9 P ρ h w) (os:ae):Tr ρ h w ρ (h++os) w where
 ext:=.refl _
 len:=by simp
 jQ:=fun _ _ hi=>H.lt hi
 kinds:=fun i hi hm=>by unfold cF at hm⊢;rw [getElem?_append_left hi] at hm;exact hm
 fresh:=fun i r h1 h2=>by rw [h1] at h2;cases h2
 ji:=le_refl _
 iK:=fun _ _ _=>rfl
 os:=rfl
 tape:=rfl
 output:=rfl
theorem ayS {lo:pK} {g:Operand→Value} {h:ae} {v:Value} (os:ae) (hl:fR lo g h=some v):fR lo g (h++os)=some v:=by
 have get:∀{i:Nat} {o:aj},h[i]?=some o→(h++os)[i]?=some o:=by
  intro i o hi
  rw [getElem?_append_left (bL hi).1];exact hi
 have cells:∀{i:Nat} {xs:List Value},aP h i=some xs→aP (h++os) i=some xs:=by
  intro i xs hc
  unfold aP at hc⊢
  split at hc
  ·rename_i e ys hq;rw [get hq];exact hc
  ·rename_i e ys hq;rw [get hq];exact hc
  ·cases hc
 cases lo with
 | load agg n a=>
  simp only [fR,af] at hl⊢
  split at hl
  ·rename_i i o _
   cases hc:aP h i with
   | none=>rw [hc] at hl;cases hl
   | some xs=>rw [hc] at hl;rw [cells hc];exact hl
  ·cases hl
 | yS x=>
  have sc:∀{cs:List Value},lh h 1 (g x)=some cs→lh (h++os) 1 (g x)=some cs:=by
   intro cs hc
   unfold lh at hc⊢
   split at hc
   ·exact hc
   ·rename_i i o e n c hx
    split at hc
    ·rename_i h0;rw [if_pos h0];exact hc
    ·rename_i h0
     rw [if_neg h0]
     cases oI:aP h i with
     | none=>rw [oI] at hc;cases hc
     | some xs=>rw [oI] at hc;rw [cells oI];exact hc
   ·cases hc
  simp only [fR,sv] at hl⊢
  cases hc:lh h 1 (g x) with
  | none=>rw [hc] at hl;cases hl
  | some cs=>rw [hc] at hl;rw [sc hc];exact hl
 | lookup ok z m k=>
  simp only [fR,JX] at hl⊢
  split at hl
  ·rename_i i key hm hk
   split at hl
   ·rename_i es he;rw [get he];exact hl
   ·cases hl
  ·cases hl
 | Kh kd ok z m k=>
  simp only [fR,yk] at hl⊢
  split at hl
  ·rename_i i Cy key hm hk
   split at hl
   ·rename_i nW es he;rw [get he];exact hl
   ·cases hl
  ·cases hl
 | Kg gk ok z m k=>
  simp only [fR,Ao] at hl⊢
  split at hl
  ·rename_i i hm
   split at hl
   ·rename_i g' c es he;rw [get he];exact hl
   ·cases hl
  ·cases hl
 | entry it=>
  simp only [fR,Am] at hl⊢
  split at hl
  ·rename_i j hj
   split at hl
   ·rename_i i si seen last ti
    rw [get ti]
    simp only
    split at hl
    ·rename_i gg c es b iX hb
     rw [get iX,hb]
     exact hl
    ·cases hl
   ·cases hl
  ·cases hl
 | obj x=>
  simp only [fR,eC] at hl⊢
  cases hx:Ap (g x) with
  | none=>rw [hx] at hl;cases hl
  | some i=>
   rw [hx] at hl
   simp only [Option.bind_some] at hl⊢
   cases ho:h[i]? with
   | none=>rw [ho] at hl;cases hl
   | some o=>rw [ho] at hl;rw [get ho];exact hl
end
section
section
variable {P : Program} {w : World} {ρ : aK} {h : ae}
theorem a9.cells (H:a9 P ρ h w) {i:Nat} {r:RI} {xs:List Value} (hi:ρ i=some r) (hx:aP h i=some xs):
  ∃c t fr,w.heap[r.bw]?=some (.cells c t fr)∧gv ρ c r.sh xs:=by
 obtain ⟨o,ho,hr⟩:=H.obj i r hi
 unfold aP at hx
 rw [ho] at hx
 cases o with
 | ro e ys=>
  simp at hx;subst hx
  obtain ⟨h1,c,t,fr,h2,h3,h4⟩:=hr
  exact ⟨c,t,fr,h2,h4⟩
 | arr e ys=>
  simp at hx;subst hx
  obtain ⟨h1,h0,c,h2,h3,h4⟩:=hr
  subst h1
  exact ⟨c,_,(0,0),h2,by rw [h0];exact h4⟩
 | smap es=>simp at hx
 | fm kd es=>simp at hx
 | cU g c es=>simp at hx
 | iter m s n l=>simp at hx
 | loop c ls vs=>simp at hx
 | dead=>simp at hx
theorem gv.WK {c:Array Value} {sh o n:Nat} {xs:List Value} (hc:gv ρ c sh xs) (hl:o+n≤xs.length):
  ∃ys:List Value,bG ρ ((xs.drop o).take n) ys∧ys.length=n∧(∀x∈(xs.drop o).take n,gK x=true)∧∀j v,ys[j]?=some v→c[sh+o+j]?=some v:=by
 have key:∀j,j<n→∃x y,((xs.drop o).take n)[j]?=some x∧c[sh+o+j]?=some y∧ax ρ x y∧gK x=true:=by
  intro j hj
  have hx:xs[o+j]?=some (xs[o+j]'(by omega)):=List.getElem?_eq_getElem _
  obtain ⟨h1,y,hy,hr⟩:=hc (o+j) _ hx
  refine ⟨_,y,?_,by rw [←hy];congr 1;omega,hr,h1⟩
  rw [List.getElem?_take,if_pos hj,List.getElem?_drop]
  exact hx
 have hlen:((xs.drop o).take n).length=n:=by simp;omega
 refine ⟨(List.range n).map fun j=>c.getD (sh+o+j) Go.undef,?_,by simp,?_,?_⟩
 ·refine bG.Kx (by simp;omega) ?_
  intro k x y hx hy
  have hk:k<n:=by have:=(bL hx).1;omega
  obtain ⟨x',y',h1,h2,h3,_⟩:=key k hk
  rw [h1] at hx;cases hx
  simp [hk] at hy
  subst hy
  simpa [Array.getD,Array.getElem?_eq_some_iff.1 h2 |>.1,(Array.getElem?_eq_some_iff.1 h2).2] using h3
 ·intro x hx
  obtain ⟨k,hk⟩:=List.getElem?_of_mem hx
  have cj:k<n:=by have:=(bL hk).1;omega
  obtain ⟨x',y',h1,h2,h3,h4⟩:=key k cj
  rw [h1] at hk;cases hk
  exact h4
 ·intro j v hv
  by_cases hj:j<n
  ·obtain ⟨x',y',h1,h2,h3,_⟩:=key j hj
   simp [hj] at hv
   rw [h2,←hv]
   simp [Array.getElem?_eq_some_iff.1 h2 |>.1,(Array.getElem?_eq_some_iff.1 h2).2]
  ·simp [hj] at hv
theorem Iz {g o:Nat} {c:Array Value} {t:TypeId} {fr:Nat×Nat} (hg:w.heap[g]?=some (.cells c t fr)):w.cell? ⟨g,o,none⟩=c[o]?:=by
 simp [World.cell?,hg]
theorem aFe {g o n:Nat} {c:Array Value} {t:TypeId} {fr:Nat×Nat} {ys:List Value} (hg:w.heap[g]?=some (.cells c t fr)) (hl:ys.length=n) (hy:∀j v,ys[j]?=some v→c[o+j]?=some v):
  (loadCells ⟨g,o,none⟩ n).run P w=.ok ys.toArray w:=by
 subst hl
 exact run_loadCells_list w _ ys fun j v hj=>by rw [Addr.add_lit,Iz hg];exact hy j v hj
theorem am3 (H:a9 P ρ h w) {t:TypeId} {d:TypeDesc} {a a' v:Value} (ht:P.underlying t=some d) (hk:jd P t=true) (hi:af (oO d) (P.cellsOf t) h a=some v) (ha:ax ρ a a'):
  ∃v',(Instr.loadAt t a').run P w=.ok v' w∧ax ρ v v':=by
 unfold af at hi
 split at hi
 ·rename_i i o
  obtain ⟨r,hr,rfl⟩:=ha.FW
  simp only [bind_eq_some_iff] at hi
  obtain ⟨xs,hx,hp⟩:=hi
  obtain ⟨c,_,fr,hb,hc⟩:=H.cells hr hx
  unfold b9 at hp
  cases hd:oO d
  ·rw [hd] at hp
   simp at hp
   obtain ⟨h1,y,hy,hv⟩:=hc o v hp
   refine ⟨y,?_,hv⟩
   have:w.cell? ⟨r.bw,r.sh+o,none⟩=some y:=by rw [Iz hb,hy]
   simp [Instr.loadAt,Instr.sureAddr,loadVar,V4 w ht,hd,this]
  ·rw [hd] at hp
   simp at hp
   obtain ⟨hl,rfl⟩:=hp
   obtain ⟨ys,h1,h2,h3,h4⟩:=hc.WK hl
   refine ⟨.agg ys.toArray,?_,.Bx h1 h3⟩
   simp [Instr.loadAt,Instr.sureAddr,loadVar,V4 w ht,hd,rB w hk,aFe (P:=P) hb h2 h4]
 ·cases hi
theorem LI (H:a9 P ρ h w) {aY:Nat} {x x':Value} {cs:List Value} (hs:lh h aY x=some cs) (hx:ax ρ x x'):
  (x'=.slice none 0 0∧cs=[])∨(∃b o n c',x'=.slice (some ⟨b,o,none⟩) n c'∧qq x=some n∧cs.length=n*aY∧(∀v∈cs,gK v=true)∧
   ∃ys,bG ρ cs ys∧∀j v,ys[j]?=some v→w.cell? ⟨b,o+j,none⟩=some v):=by
 unfold lh at hs
 split at hs
 ·simp at hs;subst hs
  cases hx
  exact .inl ⟨rfl,rfl⟩
 ·rename_i i o e n c
  cases hx with
  | slice hr ho hn hc hb=>
   rename_i o' c' r
   split at hs
   ·rename_i h0
    simp at hs;subst hs;subst h0
    exact .inr ⟨_,_,_,_,rfl,rfl,by simp,by simp,[],.nil,by simp⟩
   ·rename_i h0
    simp only [bind_eq_some_iff] at hs
    obtain ⟨xs,hx,hl⟩:=hs
    split at hl
    ·rename_i hle
     simp at hl;subst hl
     obtain ⟨c,_,fr,tc,hc⟩:=H.cells hr hx
     obtain ⟨ys,h1,h2,h3,h4⟩:=hc.WK hle
     have dS:o'=r.sh+o:=by
      rcases ho with ho | ⟨q1,q2,q3⟩
      ·exact ho
      ·omega
     subst dS
     refine .inr ⟨_,_,_,_,rfl,rfl,by simp;omega,h3,ys,h1,?_⟩
     intro j v hj
     rw [Iz tc]
     exact h4 j v hj
    ·cases hl
 ·cases hs
theorem agH:∀{cs:List Value} {l:List UInt8},cs.mapM DH=some l→∃ns:List Int,cs=ns.map (Value.int .u8)∧l=ns.map fun n=>UInt8.ofNat n.toNat
 | [],l,h=>by simp at h;subst h;exact ⟨[],rfl,rfl⟩
 | c::cs,l,h=>by
  simp only [List.mapM_cons,Option.bind_eq_bind,bind_eq_some_iff] at h
  obtain ⟨b,hb,bs,iW,h⟩:=h
  simp at h;subst h
  obtain ⟨ns,rfl,rfl⟩:=agH iW
  unfold DH at hb
  split at hb
  ·rename_i n
   simp at hb;subst hb
   exact ⟨n::ns,rfl,rfl⟩
  ·cases hb
theorem bG.ints {ns:List Int} {k:IntKind} {ys:List Value} (h:bG ρ (ns.map (Value.int k)) ys):ys=ns.map (Value.int k):=by
 induction ns generalizing ys with
 | nil=>cases h;rfl
 | cons n ns ih=>
  cases h with
  | cons a b=>rw [a.mU,ih b];rfl
theorem aBa (ns:List Int):∀(s:ByteArray),ns.foldl (fun r n=>r.push (UInt8.ofNat n.toNat)) s=⟨(bytes s++ns.map fun n=>UInt8.ofNat n.toNat).toArray⟩:=by
 induction ns with
 | nil=>intro s;simp [Fq]
 | cons n ns ih=>
  intro s
  rw [List.foldl_cons,ih]
  simp [bytes]
theorem aEL (H:a9 P ρ h w) {x x' v:Value} (hi:sv h x=some v) (hx:ax ρ x x'):(Conv.bytesToString x').run P w=.ok v w∧ax ρ v v:=by
 unfold sv at hi
 simp only [bind_eq_some_iff,map_eq_some_iff] at hi
 obtain ⟨cs,hs,l,hl,rfl⟩:=hi
 refine ⟨?_,ax.S _ _⟩
 obtain ⟨ns,rfl,rfl⟩:=agH hl
 rcases LI H hs hx with ⟨rfl,h0⟩ | ⟨b,o,n,c',rfl,_,hlen,_,ys,hy,tf⟩
 ·have:ns=[]:=by simpa using h0
  subst this
  simp [Conv.bytesToString,S]
  rfl
 ·have e:=hy.ints
  subst e
  simp at hlen
  have hld:(loadCells ⟨b,o,none⟩ n).run P w=.ok (ns.map (Value.int .u8)).toArray w:=by
   have:=run_loadCells_list (P:=P) w ⟨b,o,none⟩ (ns.map (Value.int .u8)) (fun j v hj=>by rw [Addr.add_lit];exact tf j v hj)
   simpa [hlen] using this
  rw [run_bytesToString w _ n c' ns hld,aBa]
  rfl
end
end
section
theorem afQ {a b:Value} (h:yo a b=true):a=b:=by
 unfold yo at h
 split at h
 ·simp only [and_eq_true,decide_eq_true_eq] at h;rw [h.1,h.2]
 ·cases h
theorem afS:∀{a b:List Value},uK a b=true→a=b
 | [],[],_=>rfl
 | a::vJ,b::bs,h=>by
  simp only [uK,and_eq_true] at h
  rw [afQ h.1,afS h.2]
 | [],_::_,h=>by cases h
 | _::_,[],h=>by cases h
theorem afT {k:IntKind}:∀{a:List Value},(∀v∈a,kE k v=true)→uK a a=true
 | [],_=>rfl
 | a::vJ,h=>by
  simp only [uK,and_eq_true]
  refine ⟨?_,afT fun v hv=>h v (by simp [hv])⟩
  have:=h a (by simp)
  unfold kE at this
  split at this
  ·simp [yo]
  ·cases this
theorem ad1 {a b:Value} (h:np a b=true):a=b:=by
 unfold np at h
 split at h
 ·rename_i s t
  simp at h
  have:=Fq s
  rw [h,Fq] at this
  rw [this]
 ·rw [ext' (afS h)]
 ·exact afQ h
theorem aw3 {g:gf} {a:Value} (h:fz g a=true):np a a=true:=by
 unfold fz at h
 split at h
 ·unfold kE at h
  split at h
  ·simp [np,yo]
  ·cases h
 ·simp [np]
 ·simp only [and_eq_true,all_eq_true] at h
  exact afT fun v hv=>(h.2 v hv).1
 ·cases h
theorem aw2 {g:gf} {a b:Value} (h:fz g a=true):np a b=true↔a=b:=⟨ad1,fun e=>e ▸ aw3 h⟩
theorem Lb {g:gf} {k:Value} (hk:fz g k=true):∀es:List (Nat×Value×Value),(mm k es=none∧∀e∈es,e.2.1≠k)∨∃j e,mm k es=some j∧es[j]?=some e∧e.2.1=k
 | []=>.inl ⟨rfl,by simp⟩
 | (b,k',v)::es=>by
  simp only [mm]
  by_cases h:np k k'=true
  ·rw [if_pos h]
   exact .inr ⟨0,(b,k',v),rfl,rfl,(ad1 h).symm⟩
  ·rw [if_neg h]
   rcases Lb hk es with ⟨h1,h2⟩ | ⟨j,e,h1,h2,h3⟩
   ·refine .inl ⟨by rw [h1];rfl,?_⟩
    intro e he
    rcases List.mem_cons.1 he with rfl | he
    ·intro e'
     exact h ((aw2 hk).2 e'.symm)
    ·exact h2 e he
   ·exact .inr ⟨j+1,e,by rw [h1];rfl,by simpa using h2,h3⟩
structure Gx (P:Program) (kt:TypeId) (g:gf):Prop where
 check:∀(w:World) (em:Bool) (v:Value),fz g v=true→(Instr.checkKey em 10000 kt v).run P w=.ok () w
 find:∀(w:World) (x:Value),fz g x=true→∀es:List MapEntry,(∀e∈es,fz g e.key=true)→
  ((Instr.findKey kt x es).run P w=.ok none w∧∀e∈es,e.key≠x)∨∃j e,(Instr.findKey kt x es).run P w=.ok (some (j,e.val)) w∧es[j]?=some e∧e.key=x
 stays:∀(w:World) (v:Value),fz g v=true→(Instr.keyThatStays v v).run P w=.ok v w
theorem alM {P:Program} {kt:TypeId} {g:gf} {d:TypeDesc} (hd:P.underlying kt=some d) (hg:∀v,fz g v=true→MapKept.IsKey d v):Gx P kt g where
 check w em v hv:=MapKept.run_checkKey hd (hg v hv) em 9999
 find w x hx es iX:=by
  rcases MapKept.findNow_spec (hg x hx) es 0 (fun e he=>hg _ (iX e he)) with ⟨h1,h2⟩ | ⟨j,e,h1,h2,h3⟩
  ·exact .inl ⟨MapKept.run_findKey hd h1,h2⟩
  ·exact .inr ⟨j,e,by simpa using MapKept.run_findKey hd h1,h2,h3⟩
 stays w v hv:=MapKept.run_keyThatStays (hg v hv)
section
variable {P : Program}
theorem afU {k:IntKind} {e:TypeId} {D:Nat} (he:P.underlying e=some (.int k)) (hc:P.cellsOf e=1) (cs:List Value) (h:∀v∈cs,(kE k v&&E7 k v)=true):
  ∀m,m≤cs.length→∃ls,((List.range m).mapM fun i=>P.keyLits (D+1) e ((cs.drop (i*P.cellsOf e)).take (P.cellsOf e)))=some ls
 | 0,_=>⟨[],rfl⟩
 | m+1,hm=>by
  obtain ⟨ls,RW⟩:=afU he hc cs h m (by omega)
  have wm:m<cs.length:=by omega
  have hv:=h cs[m] (List.getElem_mem wm)
  rw [and_eq_true] at hv
  have h1:(cs.drop (m*P.cellsOf e)).take (P.cellsOf e)=[cs[m]]:=by
   rw [hc,Nat.mul_one]
   apply List.ext_getElem?
   intro i
   rw [List.getElem?_take]
   cases i with
   | zero=>simp [wm]
   | succ i=>simp
  generalize cs[m]=v at hv h1
  obtain ⟨k',n,rfl⟩:∃k' n,v=.int k' n:=by
   cases v <;> first | exact ⟨_,_,rfl⟩ | simp [kE] at hv
  have hk:k'=k:=by simpa [kE] using hv.1
  subst hk
  have hr:k'.min≤n∧n≤k'.max:=by simpa [E7] using hv.2
  have hw:(Lit.int k' n).wf=true:=by simp [Lit.wf,hr]
  refine ⟨ls++[[.int k' n]],?_⟩
  rw [List.range_succ,List.mapM_append,RW]
  simp [h1,Program.keyLits,he,hw]
theorem ayV {kt e:TypeId} {n:Nat} {k:IntKind} (hu:P.underlying kt=some (.array n e)) (he:P.underlying e=some (.int k)) (Jp:P.cellsOf e=1) (Rv:P.cellsOf kt=n) (jJ:P.types.size≠0):Gx P kt (.ints n k):=by
 have A:WideMaps.ArrKey P kt e n:=⟨hu,by simp [Program.plainKey,he],Jp,Rv⟩
 have key:∀v,fz (.ints n k) v=true→∃l,keyOf P kt v=some l:=by
  intro v hv
  cases v <;> simp [fz] at hv
  rename_i cs
  obtain ⟨h1,h2⟩:=hv
  have hkt:=A.keyType ⟨P.types.size-1,by omega⟩
  obtain ⟨D,hD⟩:∃D,P.types.size=D+1:=⟨P.types.size-1,by omega⟩
  obtain ⟨ls,RW⟩:=afU (D:=D) he Jp cs.toList (fun v hv=>by obtain ⟨i,hi,e⟩:=List.mem_iff_getElem.1 hv;have:=h2 i (by simpa using hi);rw [←e];simpa using this) n (by simp [h1])
  refine ⟨.string (keyBytes ls.flatten),?_⟩
  unfold keyOf
  rw [hu]
  have hf:(Value.agg cs).formed P kt=true:=by simp [Value.formed,hu,Rv,h1]
  simp only [hkt,hf,Bool.and_self,if_true]
  unfold Program.keyLits
  rw [hu]
  have hl:(Value.agg cs).cells.toList.length=P.cellsOf kt:=by simp [Value.cells,Rv,h1]
  simp only [hl,if_true,hD]
  have:(Value.agg cs).cells.toList=cs.toList:=rfl
  rw [this,RW]
  rfl
 have K:=A.law
 exact {
  check:=fun w em v hv=>let ⟨l,hl⟩:=key v hv;K.check w em hl
  find:=fun w x hx es iX=>let ⟨l,hl⟩:=key x hx;K.find w hl es fun e he=>key _ (iX e he)
  stays:=fun w v hv=>let ⟨l,hl⟩:=key v hv;K.stays w hl }
theorem Jg {t:TypeId} {g:gf} (h:rU P t=some g):∃kt et,P.underlying t=some (.map kt et)∧Gx P kt g:=by
 unfold rU at h
 split at h
 ·rename_i kt et ht
  refine ⟨kt,et,ht,?_⟩
  split at h
  ·cases h
  ·split at h
   ·rename_i hk
    simp at h;subst h
    exact alM hk fun v hv=>by cases v <;> simp [fz] at hv;trivial
   ·rename_i k hk
    simp at h;subst h
    exact alM hk fun v hv=>by cases v <;> simp [fz,kE] at hv;exact hv
   ·rename_i n e hk
    split at h
    ·rename_i k he
     split at h
     ·rename_i hc
      simp at h;subst h
      simp at hc
      exact ayV hk he hc.1.1 hc.1.2 (by rw [Ne,Array.size_eq_zero_iff];exact hc.2)
     ·cases h
    ·cases h
   ·cases h
 ·cases h
end
section
variable {P : Program} {w : World} {ρ : aK} {h : ae}
structure sS (ρ:aK) (g:gf) (es:List (Nat×Value×Value)) (aJ:Array MapEntry):Prop where
 size:aJ.size=es.length
 nodup:(es.map fun e=>e.2.1).Nodup
 get:∀(j b:Nat) (k v:Value),es[j]?=some (b,k,v)→fz g k=true∧∃en,aJ[j]?=some en∧en.key=k∧en.born=b∧ax ρ v en.val
theorem a9.BL (H:a9 P ρ h w) {i:Nat} {r:RI} {g:gf} {c:Nat} {es:List (Nat×Value×Value)} (hi:ρ i=some r) (he:h[i]?=some (.cU g c es)):
  ∃aJ,w.heap[r.bw]?=some (.map aJ c)∧sS ρ g es aJ:=by
 obtain ⟨o,ho,hr⟩:=H.obj i r hi
 rw [he] at ho
 cases ho
 obtain ⟨h0,aJ,h1,h2,h3⟩:=hr
 exact ⟨aJ,h1,h2,h0,h3⟩
theorem sS.inv {g:gf} {es:List (Nat×Value×Value)} {aJ:Array MapEntry} (E:sS ρ g es aJ) {j:Nat} {en:MapEntry} (hj:aJ[j]?=some en):∃v,es[j]?=some (en.born,en.key,v)∧fz g en.key=true∧ax ρ v en.val:=by
 have aD:j<es.length:=by rw [←E.size];exact (Array.getElem?_eq_some_iff.1 hj).1
 obtain ⟨b,k,v⟩:Nat×Value×Value:=es[j]
 have iX:=List.getElem?_eq_getElem aD
 generalize he:es[j]=x at iX
 obtain ⟨b,k,v⟩:=x
 obtain ⟨g1,en',g2,g3,g4,g5⟩:=E.get j b k v iX
 rw [hj] at g2
 cases g2
 subst g3;subst g4
 exact ⟨v,iX,g1,g5⟩
theorem V1 {g:gf} {kt:TypeId} {es:List (Nat×Value×Value)} {aJ:Array MapEntry} (L:Gx P kt g) (E:sS ρ g es aJ) {k:Value} (hk:fz g k=true):
  ((mm k es=none∧(∀e∈es,e.2.1≠k))∧(Instr.findKey kt k aJ.toList).run P w=.ok none w)∨
  ∃j b v en,mm k es=some j∧es[j]?=some (b,k,v)∧aJ[j]?=some en∧en.key=k∧en.born=b∧ax ρ v en.val∧(Instr.findKey kt k aJ.toList).run P w=.ok (some (j,en.val)) w:=by
 have fA:∀e∈aJ.toList,fz g e.key=true:=by
  intro e he
  obtain ⟨j,hj,e'⟩:=List.mem_iff_getElem.1 he
  have:aJ[j]?=some e:=by
   rw [←getElem?_toList,List.getElem?_eq_getElem hj,e']
  exact (E.inv this).choose_spec.2.1
 rcases L.find w k hk aJ.toList fA with ⟨h1,h2⟩ | ⟨j,en,h1,h2,h3⟩
 ·rcases Lb hk es with ⟨p1,p2⟩ | ⟨j,e,p1,p2,p3⟩
  ·exact .inl ⟨⟨p1,p2⟩,h1⟩
  ·exfalso
   obtain ⟨b,k',v⟩:=e
   obtain ⟨_,en,q1,q2,_⟩:=E.get j b k' v p2
   have hm:en∈aJ.toList:=by
    rw [←getElem?_toList] at q1
    exact mem_of_getElem? q1
   exact h2 en hm (q2.trans p3)
 ·have h2':aJ[j]?=some en:=by rw [←getElem?_toList];exact h2
  obtain ⟨v,q1,q2,q3⟩:=E.inv h2'
  rcases Lb hk es with ⟨p1,p2⟩ | ⟨j',e,p1,p2,p3⟩
  ·exact absurd h3 (p2 _ (mem_of_getElem? q1))
  ·have hj:j'=j:=by
    have hn:=List.pairwise_iff_getElem.1 E.nodup
    have l1:j<es.length:=(bL q1).1
    have l2:j'<es.length:=(bL p2).1
    have k1:(es.map fun e=>e.2.1)[j]'(by simpa using l1)=k:=by
     have:=(bL q1).2
     simp [this,h3]
    have k2:(es.map fun e=>e.2.1)[j']'(by simpa using l2)=k:=by
     have:=(bL p2).2
     simp [this,p3]
    rcases Nat.lt_trichotomy j j' with aD | heq | aD
    ·exact absurd (k1.trans k2.symm) (hn j j' _ _ aD)
    ·exact heq.symm
    ·exact absurd (k2.trans k1.symm) (hn j' j _ _ aD)
   subst hj
   exact .inr ⟨_,_,v,en,p1,by rw [q1,h3],h2',h3,rfl,q3,h1⟩
theorem Bg.rel {z:Value} (h:Bg z=true):ax ρ z z:=by
 unfold Bg at h
 split at h
 ·rename_i cs
  rw [all_eq_true] at h
  have cl:∀x∈cs.toList,mL x=true∧gK x=true:=fun x hx=>by have:=h x hx;simpa [BD] using this
  refine .agg rfl (fun x hx=>(cl x hx).2) (fun k x x' hx bT=>?_)
  rw [hx] at bT
  cases bT
  exact mL.rel (cl x (by rw [←getElem?_toList] at hx;exact mem_of_getElem? hx)).1
 ·exact mL.rel h
theorem aES (H:a9 P ρ h w) {it E8 v:Value} (hi:Am h it=some v) (hv:ax ρ it E8):∃v',(Instr.entry E8).run P w=.ok v' w∧ax ρ v v':=by
 unfold Am at hi
 split at hi
 ·rename_i j
  split at hi
  ·rename_i i kG seen last ti
   split at hi
   ·rename_i g c es b iX hb
    split at hi
    ·rename_i gn
     subst gn
     cases hv with
     | ptr hr=>
      rename_i r
      obtain ⟨o,ho,nV⟩:=H.obj j r hr
      rw [ti] at ho
      cases ho
      obtain ⟨yd,rm,JQ,tc⟩:=nV
      obtain ⟨aJ,hm,E⟩:=H.BL JQ iX
      rw [yd]
      rw [map_eq_some_iff] at hi
      obtain ⟨e,he,rfl⟩:=hi
      have axq:∃en,aJ.find? (fun x=>x.born==b)=some en∧en.key=e.2.1∧fz g e.2.1=true∧ax ρ e.2.2 en.val:=by
       rw [←Array.find?_toList]
       have key:∀(l1:List (Nat×Value×Value)) (l2:List MapEntry),l2.length=l1.length→(∀(j b:Nat) (k v:Value),l1[j]?=some (b,k,v)→fz g k=true∧∃en,l2[j]?=some en∧en.key=k∧en.born=b∧ax ρ v en.val)→
         l1.find? (fun x=>x.1==b)=some e→∃en,l2.find? (fun x=>x.born==b)=some en∧en.key=e.2.1∧fz g e.2.1=true∧ax ρ e.2.2 en.val:=by
        intro l1
        induction l1 with
        | nil=>intro l2 _ _ h;simp at h
        | cons x l1 ih=>
         intro l2 hl fA hf
         obtain ⟨bx,kx,vx⟩:=x
         cases l2 with
         | nil=>simp at hl
         | cons y l2=>
          obtain ⟨g1,en,g2,g3,g4,g5⟩:=fA 0 bx kx vx rfl
          simp at g2
          subst g2
          rw [List.find?_cons] at hf⊢
          by_cases B4:(bx==b)=true
          ·simp only [B4] at hf
           cases hf
           rw [g4]
           simp only [B4]
           exact ⟨y,rfl,g3,g1,g5⟩
          ·have B4:(bx==b)=false:=by simpa using B4
           simp only [B4] at hf
           rw [g4]
           simp only [B4]
           exact ih l2 (by simpa using hl) (fun j b k v hj=>by simpa using fA (j+1) b k v (by simpa using hj)) hf
       exact key es aJ.toList (by simp [E.size]) (fun j b k v hj=>by simpa using E.get j b k v hj) he
      obtain ⟨en,f1,f2,f3,f4⟩:=axq
      have bX:(getObj r.bw).run P w=.ok (.mapIter (some rm.bw) kG seen.toArray c) w:=by simp [getObj,Sem.run,tc]
      have RE:(getObj rm.bw).run P w=.ok (.map aJ c) w:=by simp [getObj,Sem.run,hm]
      have zA:seen.toArray.back?=some b:=by simpa using hb
      refine ⟨.tuple #[en.key,en.val],?_,?_⟩
      ·unfold Instr.entry
       simp [bX,RE,hb,f1]
      ·rw [f2]
       have RT:ax ρ e.2.1 e.2.1:=by
        have ints:∀{kd:IntKind} {v:Value},kE kd v=true→ax ρ v v∧gK v=true:=by
         intro kd v hv
         cases v <;> simp [kE] at hv
         exact ⟨.int _ _,rfl⟩
        cases xU:e.2.1 with
        | int kd n=>exact .int _ _
        | string s=>exact .string _
        | agg cs=>
         rw [xU] at f3
         cases g with
         | ints n kd=>
          simp only [fz,and_eq_true,all_eq_true] at f3
          refine .agg rfl (fun x hx=>(ints (f3.2 x hx).1).2) (fun k x x' hx bT=>?_)
          rw [hx] at bT
          cases bT
          exact (ints (f3.2 x (by rw [←getElem?_toList] at hx;exact mem_of_getElem? hx)).1).1
         | int _=>simp [fz,kE] at f3
         | str=>simp [fz] at f3
        | _=>rw [xU] at f3;cases g <;> simp [fz,kE] at f3
       exact ax.sJ (.cons RT (.cons f4 .nil))
    ·cases hi
   ·cases hi
  ·cases hi
 ·cases hi
theorem aGG {t:TypeId} {z:Value} (hz:Mq P t=some z):(∀w,(zeroValue t).run P w=.ok z w)∧Bg z=true:=by
 unfold Mq at hz
 split at hz
 ·rename_i i hi
  split at hz
  ·rename_i z' su
   split at hz
   ·rename_i hc
    simp at hz;subst hz
    exact ⟨fun w=>A1 w hi su,hc⟩
   ·cases hz
  ·cases hz
 ·cases hz
theorem ax.key {g:gf} {k k':Value} (hk:fz g k=true) (h:ax ρ k k'):k'=k:=by
 have ints:∀{kd:IntKind} {v v':Value},kE kd v=true→ax ρ v v'→v'=v:=by
  intro kd v v' hv hr
  cases hr <;> first | rfl | simp [kE] at hv
 cases h with
 | int=>rfl
 | string=>rfl
 | agg hs _ fA=>
  rename_i xs fL _
  cases g with
  | ints n kd=>
   simp only [fz,and_eq_true,all_eq_true] at hk
   congr 1
   apply Array.ext
   ·exact hs.symm
   ·intro i h1 h2
    exact ints (hk.2 xs[i] (by simp)).1 (fA i _ _ (getElem?_eq_getElem h2) (getElem?_eq_getElem h1))
  | int _=>simp [fz,kE] at hk
  | str=>simp [fz] at hk
 | _=>cases g <;> simp [fz,kE] at hk
theorem aE0 (H:a9 P ρ h w) {t kt et:TypeId} {g:gf} {ok:Bool} {z m m' k k' v:Value} (hg:rU P t=some g) (ht:P.underlying t=some (.map kt et)) (hz:Mq P et=some z)
  (hi:Ao g ok z h m k=some v) (hm:ax ρ m m') (jI:ax ρ k k'):∃v',(Instr.lookup t m' k' ok).run P w=.ok v' w∧ax ρ v v':=by
 obtain ⟨kt',et',Sz,L⟩:=Jg hg
 rw [ht] at Sz
 cases Sz
 unfold Ao at hi
 split at hi
 ·rename_i i
  cases hm with
  | map hr=>
   rename_i r
   split at hi
   ·rename_i g' c es he
    split at hi
    ·rename_i pz
     obtain ⟨rfl,hk⟩:=pz
     rw [jI.key hk]
     have am0:∀{aJ:Array MapEntry} {clock:Nat},w.heap[r.bw]?=some (.map aJ clock)→(getObj r.bw).run P w=.ok (.map aJ clock) w:=by
      intro aJ clock hb
      simp [getObj,Sem.run,hb]
     obtain ⟨aJ,hb,E⟩:=H.BL hr he
     obtain ⟨qm,oN⟩:=aGG hz
     rcases V1 (w:=w) L E hk with ⟨⟨e1,_⟩,e2⟩ | ⟨j,b,u,en,e1,e2,e3,e4,e5,e6,e7⟩
     ·have:rS k es=none:=by simp [rS,e1]
      rw [this] at hi
      simp at hi
      have gH:(Instr.lookup t (.map (some r.bw)) k ok).run P w=.ok (if ok then .tuple #[z,.bool false] else z) w:=by
       simp [Instr.lookup,run_underlying ht,am0 hb,L.check w _ k hk,e2,qm]
      refine ⟨_,gH,?_⟩
      subst hi
      cases ok
      ·exact Bg.rel oN
      ·exact ax.sJ (.cons (Bg.rel oN) (.cons (.bool _) .nil))
     ·have:rS k es=some u:=by simp [rS,e1,e2]
      rw [this] at hi
      simp at hi
      have gH:(Instr.lookup t (.map (some r.bw)) k ok).run P w=.ok (if ok then .tuple #[en.val,.bool true] else en.val) w:=by
       simp [Instr.lookup,run_underlying ht,am0 hb,L.check w _ k hk,e7]
      refine ⟨_,gH,?_⟩
      subst hi
      cases ok
      ·exact e6
      ·exact ax.sJ (.cons e6 (.cons (.bool _) .nil))
    ·cases hi
   ·cases hi
 ·cases hi
end
end
section
inductive nh (ρ:aK):List (ByteArray×Value)→List MapEntry→Prop
 | nil:nh ρ [] []
 | cons {k:ByteArray} {v:Value} {en:MapEntry} {es:List (ByteArray×Value)} {aJ:List MapEntry}:en.key=.string k→ax ρ v en.val→nh ρ es aJ→nh ρ ((k,v)::es) (en::aJ)
theorem nh.of {ρ:aK}:∀{es:List (ByteArray×Value)} {aJ:List MapEntry},aJ.length=es.length→
  (∀(j:Nat) (k:ByteArray) (v:Value),es[j]?=some (k,v)→∃en,aJ[j]?=some en∧en.key=.string k∧ax ρ v en.val)→nh ρ es aJ
 | [],[],_,_=>.nil
 | (k,v)::es,en::aJ,hl,h=>by
  obtain ⟨en',h1,h2,h3⟩:=h 0 k v rfl
  simp at h1;subst h1
  exact .cons h2 h3 (nh.of (by simpa using hl) fun j k' v' hj=>by simpa using h (j+1) k' v' (by simpa using hj))
theorem nh.to {ρ:aK} {es:List (ByteArray×Value)} {aJ:List MapEntry} (h:nh ρ es aJ):
  aJ.length=es.length∧∀(j:Nat) (k:ByteArray) (v:Value),es[j]?=some (k,v)→∃en,aJ[j]?=some en∧en.key=.string k∧ax ρ v en.val:=by
 induction h with
 | nil=>exact ⟨rfl,fun j k v hj=>by simp at hj⟩
 | cons h1 h2 _ ih=>
  refine ⟨by simp [ih.1],?_⟩
  intro j k v hj
  cases j with
  | zero=>simp at hj;obtain ⟨rfl,rfl⟩:=hj;exact ⟨_,rfl,h1,h2⟩
  | succ j=>simp at hj;simpa using ih.2 j k v hj
theorem nh.mono {ρ av:aK} (hle:ρ.le av) {es:List (ByteArray×Value)} {aJ:List MapEntry} (h:nh ρ es aJ):nh av es aJ:=by
 induction h with
 | nil=>exact .nil
 | cons h1 h2 _ ih=>exact .cons h1 (h2.mono hle) ih
theorem awK {ρ:aK} {es:List (ByteArray×Value)} {aJ:List MapEntry} (h:nh ρ es aJ) (k:ByteArray):∀i:Nat,
  (vR k es=none∧Instr.findNow .string (.string k) aJ i=some none)∨
  (∃v v' j,vR k es=some v∧Instr.findNow .string (.string k) aJ i=some (some (i+j,v'))∧ax ρ v v'∧(∃en,aJ[j]?=some en∧en.key=.string k)):=by
 induction h with
 | nil=>intro i;exact .inl ⟨rfl,rfl⟩
 | cons h1 h2 _ ih=>
  rename_i k0 v0 en es aJ _
  intro i
  by_cases hk:k=k0
  ·subst hk
   refine .inr ⟨v0,en.val,0,by simp [vR],?_,h2,en,rfl,h1⟩
   have hb:(k==k)=true:=(MapKept.bytes_beq k k).2 rfl
   simp [Instr.findNow,h1,Instr.sameNow,hb]
  ·have hb:(k==k0)=false:=by
    rw [Bool.eq_false_iff]
    exact fun e=>hk ((MapKept.bytes_beq k k0).1 e)
   rcases ih (i+1) with ⟨e1,e2⟩ | ⟨v,v',j,e1,e2,e3,e4⟩
   ·refine .inl ⟨by simp [vR,hk,e1],?_⟩
    simp [Instr.findNow,h1,Instr.sameNow,hb,e2]
   ·refine .inr ⟨v,v',j+1,by simp [vR,hk,e1],?_,e3,?_⟩
    ·simp [Instr.findNow,h1,Instr.sameNow,hb,e2];omega
    ·simpa using e4
inductive ni (kd:IntKind) (ρ:aK):List (Int×Value)→List MapEntry→Prop
 | nil:ni kd ρ [] []
 | cons {k:Int} {v:Value} {en:MapEntry} {es:List (Int×Value)} {aJ:List MapEntry}:en.key=.int kd k→ax ρ v en.val→ni kd ρ es aJ→ni kd ρ ((k,v)::es) (en::aJ)
theorem ni.of {kd:IntKind} {ρ:aK}:∀{es:List (Int×Value)} {aJ:List MapEntry},aJ.length=es.length→
  (∀(j:Nat) (k:Int) (v:Value),es[j]?=some (k,v)→∃en,aJ[j]?=some en∧en.key=.int kd k∧ax ρ v en.val)→ni kd ρ es aJ
 | [],[],_,_=>.nil
 | (k,v)::es,en::aJ,hl,h=>by
  obtain ⟨en',h1,h2,h3⟩:=h 0 k v rfl
  simp at h1;subst h1
  exact .cons h2 h3 (ni.of (by simpa using hl) fun j k' v' hj=>by simpa using h (j+1) k' v' (by simpa using hj))
theorem ni.to {kd:IntKind} {ρ:aK} {es:List (Int×Value)} {aJ:List MapEntry} (h:ni kd ρ es aJ):
  aJ.length=es.length∧∀(j:Nat) (k:Int) (v:Value),es[j]?=some (k,v)→∃en,aJ[j]?=some en∧en.key=.int kd k∧ax ρ v en.val:=by
 induction h with
 | nil=>exact ⟨rfl,fun j k v hj=>by simp at hj⟩
 | cons h1 h2 _ ih=>
  refine ⟨by simp [ih.1],?_⟩
  intro j k v hj
  cases j with
  | zero=>simp at hj;obtain ⟨rfl,rfl⟩:=hj;exact ⟨_,rfl,h1,h2⟩
  | succ j=>simp at hj;simpa using ih.2 j k v hj
theorem ni.mono {kd:IntKind} {ρ av:aK} (hle:ρ.le av) {es:List (Int×Value)} {aJ:List MapEntry} (h:ni kd ρ es aJ):ni kd av es aJ:=by
 induction h with
 | nil=>exact .nil
 | cons h1 h2 _ ih=>exact .cons h1 (h2.mono hle) ih
theorem awL {kd:IntKind} {ρ:aK} {es:List (Int×Value)} {aJ:List MapEntry} (h:ni kd ρ es aJ) (k:Int):∀i:Nat,
  (gS k es=none∧Instr.findNow (.int kd) (.int kd k) aJ i=some none)∨
  (∃v v' j,gS k es=some v∧Instr.findNow (.int kd) (.int kd k) aJ i=some (some (i+j,v'))∧ax ρ v v'∧(∃en,aJ[j]?=some en∧en.key=.int kd k)):=by
 induction h with
 | nil=>intro i;exact .inl ⟨rfl,rfl⟩
 | cons h1 h2 _ ih=>
  rename_i k0 v0 en es aJ _
  intro i
  by_cases hk:k=k0
  ·subst hk
   refine .inr ⟨v0,en.val,0,by simp [gS],?_,h2,en,rfl,h1⟩
   have hb:(k==k)=true:=beq_self_eq_true k
   simp [Instr.findNow,h1,Instr.sameNow]
  ·have hb:(k==k0)=false:=by
    exact beq_false_of_ne hk
   rcases ih (i+1) with ⟨e1,e2⟩ | ⟨v,v',j,e1,e2,e3,e4⟩
   ·refine .inl ⟨by simp [gS,hk,e1],?_⟩
    simp [Instr.findNow,h1,Instr.sameNow,hb,e2]
   ·refine .inr ⟨v,v',j+1,by simp [gS,hk,e1],?_,e3,?_⟩
    ·simp [Instr.findNow,h1,Instr.sameNow,hb,e2];omega
    ·simpa using e4
section
variable {P : Program} {w : World} {ρ : aK} {h : ae}
theorem af0 {t:TypeId} (h:isString P t=true):P.underlying t=some .string:=by
 unfold isString at h
 split at h
 ·assumption
 ·cases h
theorem run_checkKey (b:Bool) {kt:TypeId} (hk:P.underlying kt=some .string) (k:ByteArray):(Instr.checkKey b 10000 kt (.string k)).run P w=.ok () w:=by
 rw [show (10000:Nat)=9999+1 from rfl,Instr.checkKey]
 simp [run_underlying hk]
theorem run_findKey {kt:TypeId} (hk:P.underlying kt=some .string) (k:ByteArray) (aJ:List MapEntry) {r:Option (Nat×Value)} (hr:Instr.findNow .string (.string k) aJ 0=some r):
  (Instr.findKey kt (.string k) aJ).run P w=.ok r w:=by
 simp [Instr.findKey,run_underlying hk,hr]
theorem Lw (b:Bool) {kt:TypeId} {kd:IntKind} (hk:P.underlying kt=some (.int kd)) (k:Int):(Instr.checkKey b 10000 kt (.int kd k)).run P w=.ok () w:=by
 rw [show (10000:Nat)=9999+1 from rfl,Instr.checkKey]
 simp [run_underlying hk]
theorem Lx {kt:TypeId} {kd:IntKind} (hk:P.underlying kt=some (.int kd)) (k:Int) (aJ:List MapEntry) {r:Option (Nat×Value)} (hr:Instr.findNow (.int kd) (.int kd k) aJ 0=some r):
  (Instr.findKey kt (.int kd k) aJ).run P w=.ok r w:=by
 simp [Instr.findKey,run_underlying hk,hr]
theorem a9.aJ (H:a9 P ρ h w) {i:Nat} {r:RI} {es:List (ByteArray×Value)} (hi:ρ i=some r) (he:h[i]?=some (.smap es)):
  ∃aJ clock,w.heap[r.bw]?=some (.map aJ clock)∧nh ρ es aJ.toList:=by
 obtain ⟨o,ho,hr⟩:=H.obj i r hi
 rw [he] at ho
 cases ho
 obtain ⟨aJ,clock,h1,h2,h3⟩:=hr
 exact ⟨aJ,clock,h1,nh.of (by simpa using h2) (by simpa using h3)⟩
theorem a9.adA (H:a9 P ρ h w) {i:Nat} {r:RI} {kd:IntKind} {es:List (Int×Value)} (hi:ρ i=some r) (he:h[i]?=some (.fm kd es)):
  ∃aJ clock,w.heap[r.bw]?=some (.map aJ clock)∧ni kd ρ es aJ.toList:=by
 obtain ⟨o,ho,hr⟩:=H.obj i r hi
 rw [he] at ho
 cases ho
 obtain ⟨aJ,clock,h1,h2,h3⟩:=hr
 exact ⟨aJ,clock,h1,ni.of (by simpa using h2) (by simpa using h3)⟩
theorem run_getObj_map {b:Nat} {aJ:Array MapEntry} {clock:Nat} (hb:w.heap[b]?=some (.map aJ clock)):(getObj b).run P w=.ok (.map aJ clock) w:=by
 simp [getObj,Sem.run,hb]
theorem anX {t:TypeId} {z:Value} (hz:Db P t=some z):(∀w,(zeroValue t).run P w=.ok z w)∧mL z=true:=by
 unfold Db at hz
 split at hz
 ·rename_i i hi
  split at hz
  ·rename_i z' su
   split at hz
   ·rename_i hc
    simp at hz;subst hz
    simp [BD] at hc
    exact ⟨fun w=>A1 w hi su,hc.1⟩
   ·cases hz
  ·cases hz
 ·cases hz
theorem aEZ (H:a9 P ρ h w) {t kt et:TypeId} {ok:Bool} {z m m' k k' v:Value} (ht:P.underlying t=some (.map kt et)) (hk:isString P kt=true) (hz:Db P et=some z)
  (hi:JX ok z h m k=some v) (hm:ax ρ m m') (jI:ax ρ k k'):∃v',(Instr.lookup t m' k' ok).run P w=.ok v' w∧ax ρ v v':=by
 unfold JX at hi
 split at hi
 ·rename_i i key
  rw [jI.wY]
  cases hm with
  | map hr=>
   rename_i r
   split at hi
   ·rename_i es he
    obtain ⟨aJ,clock,hb,zM⟩:=H.aJ hr he
    obtain ⟨qm,oN⟩:=anX hz
    have mR:=af0 hk
    rcases awK zM key 0 with ⟨e1,e2⟩ | ⟨u,u',j,e1,e2,e3,_⟩
    ·rw [e1] at hi
     simp at hi
     have gH:(Instr.lookup t (.map (some r.bw)) (.string key) ok).run P w=.ok (if ok then .tuple #[z,.bool false] else z) w:=by
      simp [Instr.lookup,run_underlying ht,run_getObj_map hb,run_checkKey _ mR,run_findKey mR key _ e2,qm]
     refine ⟨_,gH,?_⟩
     subst hi
     cases ok
     ·exact mL.rel oN
     ·exact ax.sJ (.cons (mL.rel oN) (.cons (.bool _) .nil))
    ·rw [e1] at hi
     simp at hi
     have gH:(Instr.lookup t (.map (some r.bw)) (.string key) ok).run P w=.ok (if ok then .tuple #[u',.bool true] else u') w:=by
      simp [Instr.lookup,run_underlying ht,run_getObj_map hb,run_checkKey _ mR,run_findKey mR key _ e2]
     refine ⟨_,gH,?_⟩
     subst hi
     cases ok
     ·exact e3
     ·exact ax.sJ (.cons e3 (.cons (.bool _) .nil))
   ·cases hi
 ·cases hi
theorem afX {t:TypeId} {kd:IntKind} (h:Au P t=some kd):P.underlying t=some (.int kd):=by
 unfold Au at h
 split at h
 ·simp at h;subst h;assumption
 ·cases h
theorem aE1 (H:a9 P ρ h w) {t kt et:TypeId} {kd:IntKind} {ok:Bool} {z m m' k k' v:Value} (ht:P.underlying t=some (.map kt et)) (hk:Au P kt=some kd) (hz:Db P et=some z)
  (hi:yk kd ok z h m k=some v) (hm:ax ρ m m') (jI:ax ρ k k'):∃v',(Instr.lookup t m' k' ok).run P w=.ok v' w∧ax ρ v v':=by
 unfold yk at hi
 split at hi
 ·rename_i i Cy key
  rw [jI.mU]
  cases hm with
  | map hr=>
   rename_i r
   split at hi
   ·rename_i nW es he
    split at hi
    ·rename_i pz
     obtain ⟨rfl,rfl⟩:=pz
     obtain ⟨aJ,clock,hb,zM⟩:=H.adA hr he
     obtain ⟨qm,oN⟩:=anX hz
     have mR:=afX hk
     rcases awL zM key 0 with ⟨e1,e2⟩ | ⟨u,u',j,e1,e2,e3,_⟩
     ·rw [e1] at hi
      simp at hi
      have gH:(Instr.lookup t (.map (some r.bw)) (.int nW key) ok).run P w=.ok (if ok then .tuple #[z,.bool false] else z) w:=by
       simp [Instr.lookup,run_underlying ht,run_getObj_map hb,Lw _ mR,Lx mR key _ e2,qm]
      refine ⟨_,gH,?_⟩
      subst hi
      cases ok
      ·exact mL.rel oN
      ·exact ax.sJ (.cons (mL.rel oN) (.cons (.bool _) .nil))
     ·rw [e1] at hi
      simp at hi
      have gH:(Instr.lookup t (.map (some r.bw)) (.int nW key) ok).run P w=.ok (if ok then .tuple #[u',.bool true] else u') w:=by
       simp [Instr.lookup,run_underlying ht,run_getObj_map hb,Lw _ mR,Lx mR key _ e2]
      refine ⟨_,gH,?_⟩
      subst hi
      cases ok
      ·exact e3
      ·exact ax.sJ (.cons e3 (.cons (.bool _) .nil))
    ·cases hi
   ·cases hi
 ·cases hi
theorem az6 {o:Oper} {lo:pK} {g g':Operand→Value} (hc:vK P o.op=some lo) (aE:o.op.operands.all jM=true) (H:a9 P ρ h w)
  (hg:∀x,jM x=true→ax ρ (g x) (g' x)) {v:Value} (hi:fR lo g h=some v):∃v',(execOp g' o).run P w=.ok (.value v') w∧ax ρ v v':=by
 cases ho:o.op with
 | load t a=>
  rw [ho] at hc aE
  simp [Op.operands] at aE
  simp only [vK] at hc
  split at hc
  ·rename_i d ht
   split at hc
   ·rename_i hk
    simp at hc;subst hc
    simp only [and_eq_true] at hk
    obtain ⟨v',h1,h2⟩:=am3 H ht hk.1 hi (hg a aE)
    exact ⟨v',by simp [execOp,ho,h1],h2⟩
   ·cases hc
  ·cases hc
 | entry it=>
  rw [ho] at hc aE
  simp [Op.operands] at aE
  simp [vK] at hc;subst hc
  obtain ⟨v',h1,h2⟩:=aES H hi (hg it aE)
  exact ⟨v',by simp [execOp,ho,h1],h2⟩
 | convert s d x=>
  rw [ho] at hc aE
  simp [Op.operands] at aE
  simp only [vK] at hc
  split at hc
  ·rename_i e hs hd
   split at hc
   ·rename_i he
    simp at hc;subst hc
    have hx:=hg x aE
    obtain ⟨h1,h2⟩:=aEL H hi hx
    refine ⟨v,?_,h2⟩
    have:(convert s d (g' x)).run P w=.ok v w:=by
     simp only [fR,sv,bind_eq_some_iff] at hi
     obtain ⟨cs,qH,_⟩:=hi
     rcases LI H qH hx with ⟨e1,_⟩ | ⟨b,o',n,c',e1,_⟩
     ·rw [e1] at h1⊢;rw [run_convert_bytes_string w s d e _ _ _ hs he hd];exact h1
     ·rw [e1] at h1⊢;rw [run_convert_bytes_string w s d e _ _ _ hs he hd];exact h1
    simp [execOp,ho,this]
   ·cases hc
  ·cases hc
 | lookup t m k ok=>
  rw [ho] at hc aE
  simp [Op.operands] at aE
  simp only [vK] at hc
  split at hc
  ·rename_i g kT
   split at hc
   ·rename_i kt et ht
    simp only [map_eq_some_iff] at hc
    obtain ⟨z,hz,rfl⟩:=hc
    obtain ⟨v',h1,h2⟩:=aE0 H kT ht hz hi (hg m aE.1) (hg k aE.2)
    exact ⟨v',by simp [execOp,ho,h1],h2⟩
   ·cases hc
  split at hc
  ·rename_i kt et ht
   split at hc
   ·rename_i hk
    simp only [map_eq_some_iff] at hc
    obtain ⟨z,hz,rfl⟩:=hc
    obtain ⟨v',h1,h2⟩:=aEZ H ht hk hz hi (hg m aE.1) (hg k aE.2)
    exact ⟨v',by simp [execOp,ho,h1],h2⟩
   ·simp only [bind_eq_some_iff,map_eq_some_iff] at hc
    obtain ⟨kd,pz,z,hz,rfl⟩:=hc
    obtain ⟨v',h1,h2⟩:=aE1 H ht pz hz hi (hg m aE.1) (hg k aE.2)
    exact ⟨v',by simp [execOp,ho,h1],h2⟩
  ·cases hc
 | _=>rw [ho] at hc;simp [vK] at hc
end
end
section
theorem LB {xs:List Value} {o:Nat} {vs:List Value} (h:o+vs.length≤xs.length) (j:Nat):
  (setAt xs o vs)[j]?=if j<o then xs[j]? else if j<o+vs.length then vs[j-o]? else xs[j]?:=by
 have hl:(xs.take o).length=o:=by simp;omega
 unfold setAt
 by_cases h1:j<o
 ·rw [if_pos h1,List.append_assoc,getElem?_append_left (by omega),List.getElem?_take,if_pos h1]
 ·rw [if_neg h1]
  by_cases h2:j<o+vs.length
  ·rw [if_pos h2,List.append_assoc,List.getElem?_append_right (by omega),hl,getElem?_append_left (by omega)]
  ·rw [if_neg h2,List.getElem?_append_right (by simp;omega),List.getElem?_drop]
   congr 1
   simp
   omega
theorem Wf {xs:List Value} {o:Nat} {vs:List Value} (h:o+vs.length≤xs.length):(setAt xs o vs).length=xs.length:=by
 unfold setAt
 simp
 omega
theorem gv.le {ρ:aK} {c:Array Value} {xs:List Value} (h:gv ρ c 0 xs):xs.length≤c.size:=by
 rcases Nat.eq_zero_or_pos xs.length with hz | hz
 ·omega
 ·have hx:xs[xs.length-1]?=some (xs[xs.length-1]'(by omega)):=List.getElem?_eq_getElem _
  obtain ⟨_,y,hy,_⟩:=h _ _ hx
  have:=(Array.getElem?_eq_some_iff.1 hy).1
  omega
theorem gv.put {ρ:aK} {c:Array Value} {xs:List Value} {o:Nat} {vs jS:List Value} (h:gv ρ c 0 xs) (hv:bG ρ vs jS) (h1:∀x∈vs,gK x=true) (hl:o+vs.length≤xs.length):
  gv ρ (setAt c.toList o jS).toArray 0 (setAt xs o vs):=by
 intro j x hj
 have gn:=h.le
 have hlen:=hv.length
 rw [LB hl] at hj
 have e:(setAt c.toList o jS).toArray[0+j]?=if j<o then c.toList[j]? else if j<o+jS.length then jS[j-o]? else c.toList[j]?:=by
  rw [zero_add,List.getElem?_toArray,LB (by simp;omega)]
 rw [e]
 by_cases BW:j<o
 ·rw [if_pos BW] at hj⊢
  obtain ⟨q1,y,q2,q3⟩:=h j x hj
  exact ⟨q1,y,by simpa using q2,q3⟩
 ·rw [if_neg BW] at hj⊢
  by_cases h2:j<o+vs.length
  ·rw [if_pos h2] at hj
   rw [if_pos (by omega)]
   obtain ⟨y,q2,q3⟩:=hv.get hj
   exact ⟨h1 x (mem_of_getElem? hj),y,q2,q3⟩
  ·rw [if_neg h2] at hj
   rw [if_neg (by omega)]
   obtain ⟨q1,y,q2,q3⟩:=h j x hj
   exact ⟨q1,y,by simpa using q2,q3⟩
theorem adN (z:List Value) (n:Nat):∀(j:Nat),j<n*z.length→(List.replicate n z).flatten[j]?=z[j%z.length]?:=by
 induction n with
 | zero=>intro j hj;simp at hj
 | succ n ih=>
  intro j hj
  rw [List.replicate_succ,List.flatten_cons]
  by_cases h:j<z.length
  ·rw [getElem?_append_left h,Nat.mod_eq_of_lt h]
  ·have e:j%z.length=(j-z.length)%z.length:=by rw [Nat.mod_eq_sub_mod (by omega)]
   rw [List.getElem?_append_right (by omega),ih _ (by rw [add_mul] at hj;omega),e]
theorem W4 (z:List Value) (n:Nat):(gY z n).length=n*z.length:=by
 induction n with
 | zero=>simp [gY]
 | succ n ih=>simp only [gY,List.replicate_succ,List.flatten_cons,List.length_append] at ih⊢;rw [ih,add_mul];omega
theorem anY {z:List Value} {n:Nat} {p:Value→Prop} (h:∀x∈z,p x):∀x∈gY z n,p x:=by
 intro x hx
 simp only [gY,List.mem_flatten,List.mem_replicate] at hx
 obtain ⟨l,⟨_,rfl⟩,hm⟩:=hx
 exact h x hm
theorem agD (z:Array Value) (m j:Nat) (hj:j<m) (hz:0<z.size):(madeCells z m)[j]?=z[j%z.size]?:=by
 have aD:j%z.size<z.size:=Nat.mod_lt _ hz
 simp [madeCells,hj,aD]
theorem az8 (z:Value) (n k:Nat) (hk:(cW z).length=k):((Array.range (n*k)).map (z.cells[·%z.cells.size]!)).toList=gY (cW z) n:=by
 have hs:z.cells.size=k:=by rw [←hk];simp [cW]
 apply List.ext_getElem?
 intro j
 by_cases hj:j<n*k
 ·have hz:0<z.cells.size:=by
   rcases Nat.eq_zero_or_pos k with h | h
   ·subst h;simp at hj
   ·omega
  have:=agD z.cells (n*k) j hj hz
  simp only [madeCells] at this
  rw [getElem?_toList,this,gY,adN _ _ _ (by rw [hk];exact hj)]
  simp [cW]
 ·rw [List.getElem?_eq_none (by simp;omega),List.getElem?_eq_none (by rw [W4,hk];omega)]
section
variable {P : Program} {w : World} {ρ : aK} {h : ae}
def kn (P:Program) (ρ:aK) (h:ae) (w:World) (v:Value) (h':ae) (s:Result Next):Prop:=
 ∃nx w' av v',s=.ok nx w'∧(nx=.value v'∨(nx=.skip∧v'=undef))∧ax av v v'∧a9 P av h' w'∧Tr ρ h w av h' w'
theorem a9.arr (H:a9 P ρ h w) {i:Nat} {r:RI} {e:TypeId} {xs:List Value} (hi:ρ i=some r) (hx:h[i]?=some (.arr e xs)):
  r.elem=e∧r.sh=0∧∃c,w.heap[r.bw]?=some (.cells c e (0,0))∧c.size=r.size∧gv ρ c 0 xs:=by
 obtain ⟨o,ho,hr⟩:=H.obj i r hi
 rw [hx] at ho
 cases ho
 exact hr
theorem aFb (H:a9 P ρ h w) {t:TypeId} {a a' v v':Value} {h':ae} (hk:jd P t=true) (hi:q9 (P.cellsOf t) h a v=some h') (ha:ax ρ a a') (hv:ax ρ v v'):
  ∃w',(Instr.storeAt t a' v').run P w=.ok () w'∧a9 P ρ h' w'∧Tr ρ h w ρ h' w':=by
 unfold q9 at hi
 split at hi
 ·rename_i i o
  obtain ⟨r,hr,rfl⟩:=ha.FW
  split at hi
  ·rename_i e xs hx
   split at hi
   ·rename_i hc
    obtain ⟨oL,hl,hle⟩:=hc
    simp at hi;subst hi
    obtain ⟨h1,h2,c,h3,h4,h5⟩:=H.arr hr hx
    have Cp:=hv.cells oL
    have lX:(cW v').length=P.cellsOf t:=by rw [←Cp.length];exact hl
    have bD:=run_storeCells_at P r.bw o e (cW v') 0 c w h3 (by have:=h5.le;simp;omega) (Cp.FA (hv.IA oL))
    have heq:(c.toList.take (o+0)++cW v'++c.toList.drop (o+0+(cW v').length)).toArray=(setAt c.toList o (cW v')).toArray:=by simp [setAt]
    rw [heq] at bD
    have jE:cF h i:=.inl ⟨e,xs,hx⟩
    obtain ⟨q1,q2⟩:=H.set (o:=.arr e (setAt xs o (cW v))) hr jE (nj.row h3 (setAt c.toList o (cW v')).toArray)
     ⟨h1,h2,_,(nj.row h3 _).here,by simp [Wf (show o+(cW v').length≤c.toList.length by have:=h5.le;simp;omega),h4],h5.put Cp (hv.IA oL) (by omega)⟩
    refine ⟨_,?_,q1,q2⟩
    have jJ:v'.cells.size=P.cellsOf t:=by rw [←lX];simp [cW]
    have ayu:(storeCells ⟨r.bw,r.sh+o,none⟩ v'.cells.toList).run P w=.ok () (w.setRow r.bw (setAt c.toList o (cW v')).toArray):=by
     rw [h2,zero_add]
     exact bD
    simp [Instr.storeAt,Instr.sureAddr,storeVar,rB w hk,jJ,ayu]
   ·cases hi
  ·cases hi
 ·cases hi
theorem Fu (H:a9 P ρ h w) {w':World} {e:TypeId} {c:Array Value} {xs:List Value} (nb:jX w (.cells c e) w') (hc:gv ρ c 0 xs):
  a9 P (ρ.add h.length ⟨w.heap.size,0,e,P.cellsOf e,c.size⟩) (h++[.arr e xs]) w'∧Tr ρ h w (ρ.add h.length ⟨w.heap.size,0,e,P.cellsOf e,c.size⟩) (h++[.arr e xs]) w':=
 H.new nb rfl rfl rfl (fun _=>.inl rfl) ⟨rfl,rfl,c,nb.new,rfl,hc.mono (aK.wJ H.none)⟩
theorem Bw (ρ:aK) (i:Nat) (r:RI):ρ.add i r i=some r:=by simp [aK.add]
theorem aha (ρ:aK) (h:ae) (r:RI) (hs:r.sh=0):ax (ρ.add h.length r) (CD h) (.pointer (some ⟨r.bw,0,none⟩)):=by
 have:=ax.ptr (ρ:=ρ.add h.length r) (i:=h.length) (o:=0) (Bw _ _ _)
 rw [hs] at this
 exact this
theorem F8 (ρ:aK) (i:Nat) (r:RI) (hs:r.sh=0) {n c':Nat} (hn:n≤c') (hc:c'≤maxLen) (hb:c'*r.aY≤r.size):ax (ρ.add i r) (sl r.elem i 0 n) (.slice (some ⟨r.bw,0,none⟩) n c'):=
 ax.slice (Bw _ _ _) (.inl (by omega)) hn hc (by omega)
theorem aEN (H:a9 P ρ h w) {e:TypeId} {x x' v:Value} {h':ae} (hi:bm e h x=some (v,h')) (hx:ax ρ x x'):
  ∃w' av v',(Instr.box e x').run P w=.ok v' w'∧ax av v v'∧a9 P av h' w'∧Tr ρ h w av h' w':=by
 unfold bm at hi
 split at hi
 ·rename_i oL
  simp at hi
  obtain ⟨rfl,rfl⟩:=hi
  have hc:gv ρ x'.cells 0 (cW x):=gv.of (hx.cells oL) (hx.IA oL)
  obtain ⟨q1,q2⟩:=Fu H (jX.alloc w (.cells x'.cells e)) hc
  exact ⟨_,_,_,by simp [Instr.box,newVar,newRow],aha _ _ _ rfl,q1,q2⟩
 ·cases hi
theorem aEJ (H:a9 P ρ h w) {e:TypeId} {zs:List Value} (hz:zeroOf P e=some zs):
  ∃w' av v',(Instr.alloc e true (.tuple #[])).run P w=.ok v' w'∧ax av (CD h) v'∧a9 P av (h++[.arr e zs]) w'∧Tr ρ h w av (h++[.arr e zs]) w':=by
 obtain ⟨i,z,hi,qZ,rfl,oL,gn,hlen⟩:=Dc hz
 have hc:gv ρ z.cells 0 (cW z):=gv.of (bG.closed fun x hx=>(gn x hx).1) (fun x hx=>(gn x hx).2)
 obtain ⟨q1,q2⟩:=Fu H (jX.alloc w (.cells z.cells e)) hc
 exact ⟨_,_,_,by simp [Instr.alloc,A1 w hi qZ,newVar,newRow],aha _ _ _ rfl,q1,q2⟩
theorem Qh {t:TypeId} {i:TypeInfo} (hi:P.info? t=some i):P.cellsOf t=i.size:=by simp [Program.cellsOf,hi]
theorem ZL {t:TypeId} {i:TypeInfo} (hi:P.info? t=some i):P.bytesOf t=i.bytes:=by simp [Program.bytesOf,hi]
theorem aE6 (H:a9 P ρ h w) {t e:TypeId} {n:Nat} {zs:List Value} {ps:List (Nat×Nat×Value)} {qs:Array (Nat×Value)} {v:Value} {h':ae} (ht:P.underlying t=some (.slice e)) (hz:zeroOf P e=some zs)
  (hn:n*P.cellsOf e≤16777216) (bp:P.cellsOf e≠0) (hp:vH ρ (fun i=>some (i*P.cellsOf e,P.cellsOf e)) ps qs.toList) (hi:dK e n zs h ps=some (v,h')):
  ∃w' av v',(Instr.buildSlice t n qs).run P w=.ok v' w'∧ax av v v'∧a9 P av h' w'∧Tr ρ h w av h' w':=by
 obtain ⟨i,z,oJ,qZ,rfl,oL,gn,hlen⟩:=Dc hz
 have hk:jd P e=true:=by simp [jd,oJ]
 have pq:=Qh oJ
 simp only [dK,map_eq_some_iff,Prod.mk.injEq] at hi
 obtain ⟨cs,hf,rfl,rfl⟩:=hi
 obtain ⟨zero,tC,hzl⟩:∃zero:Array Value,(if n*P.cellsOf e=0 then (Pure.pure #[]:Sem (Array Value)) else do pure (←zeroValue e).cells).run P w=.ok zero w∧
   ((Array.range (n*P.cellsOf e)).map (zero[·%zero.size]!)).toList=gY (cW z) n:=by
  by_cases h0:n*P.cellsOf e=0
  ·refine ⟨#[],by simp [h0],?_⟩
   have oK:n=0:=by
    rcases Nat.mul_eq_zero.1 h0 with h | h
    ·exact h
    ·exact absurd h bp
   subst oK
   simp [gY,Array.range_zero']
  ·exact ⟨z.cells,by simp [h0,A1 w oJ qZ],by rw [pq];exact az8 z n i.size hlen⟩
 have axi:bG ρ (gY (cW z) n) (gY (cW z) n):=bG.closed (anY fun x hx=>(gn x hx).1)
 obtain ⟨jH,B9,hr,h1,p7⟩:=QX (ys:=(Array.range (n*P.cellsOf e)).map (zero[·%zero.size]!)) hp hf (by rw [hzl];exact axi) (anY fun x hx=>(gn x hx).2)
 obtain ⟨q1,q2⟩:=Fu H (jX.alloc w (.cells jH e)) (gv.of hr h1)
 have jJ:jH.size=n*P.cellsOf e:=by
  have:=hr.length
  rw [p7,W4,hlen,←pq] at this
  simpa using this.symm
 have EL:n≤maxLen:=by
  have h1:1≤P.cellsOf e:=by omega
  have:=Nat.mul_le_mul_left n h1
  unfold maxLen
  omega
 refine ⟨_,_,.slice (some ⟨w.heap.size,0,none⟩) n n,?_,F8 ρ h.length ⟨w.heap.size,0,e,P.cellsOf e,jH.size⟩ rfl (le_refl _) EL (by simp [jJ]),q1,q2⟩
 unfold Instr.buildSlice
 simp only [Sem.run_bind,run_underlying ht,Result.andThen_ok,rB w hk]
 have h24:¬(n*P.cellsOf e>2^24):=by rw [show (2^24:Nat)=16777216 from rfl];omega
 rw [if_neg h24]
 by_cases h0:n*P.cellsOf e=0
 ·rw [if_pos h0] at tC⊢
  simp only [Sem.run_pure,Result.ok.injEq,and_true] at tC
  subst tC
  simp only [Sem.run_bind,Sem.run_pure,Result.andThen_ok,B9]
  simp [newRow]
 ·rw [if_neg h0] at tC⊢
  simp only [Sem.run_bind,Sem.run_pure] at tC⊢
  rw [A1 w oJ qZ] at tC⊢
  simp only [Result.andThen_ok,Result.ok.injEq,and_true] at tC⊢
  subst tC
  rw [B9]
  simp [newRow]
end
end
section
section
variable {P : Program} {w : World} {ρ : aK} {h : ae}
theorem aE2 (H:a9 P ρ h w) {t e:TypeId} {zs:List Value} {l c l' c' v:Value} {h':ae} (ht:P.underlying t=some (.slice e)) (hz:zeroOf P e=some zs)
  (hi:mb e (P.bytesOf e) zs h l c=some (v,h')) (hl:ax ρ l l') (hc:ax ρ c c'):
  ∃w' av v',(Instr.makeSlice t l' c').run P w=.ok v' w'∧ax av v v'∧a9 P av h' w'∧Tr ρ h w av h' w':=by
 obtain ⟨i,z,oJ,qZ,rfl,oL,gn,hlen⟩:=Dc hz
 unfold mb at hi
 split at hi
 ·rename_i k1 l k2 c
  rw [hl.mU,hc.mU]
  split at hi
  ·rename_i hb
   obtain ⟨h0,h1,h2,h3⟩:=hb
   simp at hi
   obtain ⟨rfl,rfl⟩:=hi
   rw [ZL oJ] at h2
   have gH:=run_make (P:=P) w t e i z ht oJ qZ k1 k2 l c h0 h1 h2 h3
   have zE:gv ρ (madeCells z.cells (c.toNat*i.size)) 0 (gY (cW z) l.toNat):=by
    intro j x hj
    have mQ:j<l.toNat*i.size:=by
     have:=(bL hj).1
     rwa [W4,hlen] at this
    have SM:z.cells.size=i.size:=by rw [←hlen];simp [cW]
    have hY:0<z.cells.size:=by
     rcases Nat.eq_zero_or_pos i.size with q | q
     ·rw [q] at mQ;simp at mQ
     ·omega
    have R5:l.toNat*i.size≤c.toNat*i.size:=Nat.mul_le_mul_right _ (by omega)
    rw [gY,adN _ _ _ (by rw [hlen];exact mQ)] at hj
    have hx:x∈cW z:=mem_of_getElem? hj
    refine ⟨(gn x hx).2,x,?_,mL.rel (gn x hx).1⟩
    rw [zero_add,agD _ _ _ (by omega) hY]
    simpa [cW] using hj
   obtain ⟨q1,q2⟩:=Fu H (jX.alloc w (.cells (madeCells z.cells (c.toNat*i.size)) e)) zE
   refine ⟨_,_,_,gH,?_,q1,q2⟩
   exact F8 ρ h.length ⟨w.heap.size,0,e,P.cellsOf e,(madeCells z.cells (c.toNat*i.size)).size⟩ rfl (by omega) (by unfold maxLen;omega) (by simp [size_madeCells,Qh oJ])
  ·cases hi
 ·cases hi
theorem amZ {t e:TypeId} {i:TypeInfo} (ht:P.underlying t=some (.slice e)) (hi:P.info? e=some i) (type:TypeId) (b:Option Addr) (n c:Nat) (x:Value) (hn:n≤c)
  (hx:x=.slice none 0 0∨∃a c2,x=.slice (some a) 0 c2):(Builtin.append_ #[t,t] type #[.slice b n c,x]).run P w=.ok (.slice b n c) w:=by
 rcases hx with rfl | ⟨a,c2,rfl⟩
 ·cases b <;> simp [Builtin.append_,run_underlying ht,sizeOf,typeInfo,hi,Builtin.lenOf,hn,Builtin.firstCells,storeCells]
 ·cases b <;> simp [Builtin.append_,run_underlying ht,sizeOf,typeInfo,hi,Builtin.lenOf,hn,Builtin.firstCells,loadCells,loadCellsFrom,storeCells]
theorem Qi {ρ:aK} {c:Array Value} {xs ys zs:List Value} (hx:∀(j:Nat) (x:Value),xs[j]?=some x→gK x=true∧∃y,c[j]?=some y∧ax ρ x y) (hz:bG ρ zs ys) (h1:∀x∈zs,gK x=true)
  (hc:∀(j:Nat) (y:Value),ys[j]?=some y→c[xs.length+j]?=some y):gv ρ c 0 (xs++zs):=by
 intro j x hj
 by_cases aD:j<xs.length
 ·rw [getElem?_append_left aD] at hj
  simpa using hx j x hj
 ·rw [List.getElem?_append_right (by omega)] at hj
  obtain ⟨y,hy,hr⟩:=hz.get hj
  refine ⟨h1 x (mem_of_getElem? hj),y,?_,hr⟩
  have:=hc _ y hy
  rw [←this]
  congr 1
  omega
theorem aEK (H:a9 P ρ h w) {t e:TypeId} {zs:List Value} {type:TypeId} {s x s' x' v:Value} {h':ae} (ht:P.underlying t=some (.slice e)) (hz:zeroOf P e=some zs)
  (hi:dY e (P.cellsOf e) (P.bytesOf e) h s x=some (v,h')) (hs:ax ρ s s') (hx:ax ρ x x'):
  ∃w' av v',(Builtin.append_ #[t,t] type #[s',x']).run P w=.ok v' w'∧ax av v v'∧a9 P av h' w'∧Tr ρ h w av h' w':=by
 obtain ⟨i,z,oJ,qZ,rfl,oL,gn,hlen⟩:=Dc hz
 have pq:=Qh oJ
 have hbe:=ZL oJ
 have SM:z.cells.size=i.size:=by rw [←hlen];simp [cW]
 unfold dY at hi
 split at hi
 ·rename_i news m hn hm
  have hxx:=LI H hn hx
  have tC:m=0→(x'=.slice none 0 0∨∃a c2,x'=.slice (some a) 0 c2):=by
   intro qL
   rcases hxx with ⟨e1,_⟩ | ⟨b,o,n2,c2,e1,e2,_⟩
   ·exact .inl e1
   ·rw [hm] at e2;cases e2;subst qL;exact .inr ⟨_,_,e1⟩
  have afk:0<m→∃b o c2,x'=.slice (some ⟨b,o,none⟩) m c2∧news.length=m*i.size∧(∀v∈news,gK v=true)∧
    ∃ys,bG ρ news ys∧ys.length=m*i.size∧∀j v,ys[j]?=some v→w.cell? ((⟨b,o,none⟩:Addr).add j)=some v:=by
   intro qL
   rcases hxx with ⟨e1,e2⟩ | ⟨b,o,n2,c2,e1,e2,e3,e4,ys,e5,e6⟩
   ·subst e1
    cases hx
    ·simp [qq] at hm
     omega
    ·simp [qq] at hm
   ·rw [hm] at e2;cases e2
    refine ⟨b,o,c2,e1,by rw [e3,pq],e4,ys,e5,by rw [←e5.length,e3,pq],?_⟩
    intro j v hj
    rw [Addr.add_lit]
    exact e6 j v hj
  split at hi
  ·cases hs
   split at hi
   ·rename_i qL
    simp at hi
    obtain ⟨rfl,rfl⟩:=hi
    exact ⟨w,ρ,_,amZ ht oJ type none 0 0 x' (le_refl _) (tC qL),.rl,H,Tr.refl H⟩
   ·rename_i qL
    split at hi
    ·rename_i hb
     obtain ⟨lV,Eu⟩:=hb
     simp at hi
     obtain ⟨rfl,rfl⟩:=hi
     obtain ⟨b,o,c2,rfl,f1,f2,ys,f3,f4,f5⟩:=afk (by omega)
     have gH:=run_append_nil (P:=P) w t type e i z ht oJ qZ ⟨b,o,none⟩ m c2 ys f4 f5 (by omega) (by unfold maxLen at Eu;omega) (by rw [←hbe];omega)
     have cJ:=grownCap_ge w m 0 e
     have zE:gv ρ (ys.toArray++Builtin.zeroCells z.cells (grownCap w m 0 e-m)) 0 news:=by
      have:=Qi (ρ:=ρ) (c:=ys.toArray++Builtin.zeroCells z.cells (grownCap w m 0 e-m)) (xs:=[]) (ys:=ys) (zs:=news) (by simp) f3 f2 (by
       intro j y hj
       have aD:=(bL hj).1
       rw [Array.getElem?_append_left (by simpa using aD)]
       simpa using hj)
      simpa using this
     obtain ⟨q1,q2⟩:=Fu H (jX.drew w (.cells (ys.toArray++Builtin.zeroCells z.cells (grownCap w m 0 e-m)) e)) zE
     refine ⟨_,_,_,gH,?_,q1,q2⟩
     refine F8 ρ h.length ⟨w.heap.size,0,e,P.cellsOf e,(ys.toArray++Builtin.zeroCells z.cells (grownCap w m 0 e-m)).size⟩ rfl cJ (grownCap_le_maxLen w m 0 e Eu) ?_
     simp only [Array.size_append,List.size_toArray,size_zeroCells,f4,SM,pq]
     rw [←add_mul]
     exact Nat.mul_le_mul_right _ (by omega)
    ·cases hi
  ·rename_i ii e' n cc
   split at hi
   ·rename_i e'' xs qk
    split at hi
    ·rename_i hb
     obtain ⟨rfl,rfl,hb3,hb4,hb5⟩:=hb
     have Su:=hs
     cases hs with
     | slice hr ho hnc hcm B1=>
      rename_i o' c' r
      obtain ⟨g1,g2,c,g3,g4,g5⟩:=H.arr hr qk
      obtain rfl:o'=0:=by
       rcases ho with ho | ⟨_,q,_⟩
       ·omega
       ·omega
      have iX:=H.aY _ _ hr
      split at hi
      ·rename_i qL
       simp at hi
       obtain ⟨rfl,rfl⟩:=hi
       exact ⟨w,ρ,_,amZ ht oJ type _ n c' x' hnc (tC qL),Su,H,Tr.refl H⟩
      ·rename_i qL
       simp at hi
       obtain ⟨rfl,rfl⟩:=hi
       obtain ⟨b,o,c2,rfl,f1,f2,ys,f3,f4,f5⟩:=afk (by omega)
       rw [pq] at hb3
       have B8:r.aY=i.size:=by rw [iX,pq]
       have jE:cF h ii:=.inl ⟨_,xs,qk⟩
       by_cases Sr:n+m≤c'
       ·have Jv:n*i.size+ys.length≤c.size:=by
         rw [f4,g4,←add_mul]
         have:=Nat.mul_le_mul_right i.size Sr
         rw [B8] at B1
         omega
        have gH:=run_append_room (P:=P) w t type r.elem i ht oJ r.bw n c' c g3 ⟨b,o,none⟩ m c2 ys f4 f5 (f3.FA f2) Sr Jv
        have qH:(c.toList.take (n*i.size)++ys++c.toList.drop (n*i.size+ys.length)).toArray=(setAt c.toList (n*i.size) ys).toArray:=rfl
        rw [qH] at gH
        have jJ:(setAt c.toList (n*i.size) ys).toArray.size=c.size:=by simp [Wf (show n*i.size+ys.length≤c.toList.length by simpa using Jv)]
        have zE:gv ρ (setAt c.toList (n*i.size) ys).toArray 0 (xs++news):=by
         refine Qi (ys:=ys) ?_ f3 f2 ?_
         ·intro j x hj
          have aD:=(bL hj).1
          obtain ⟨k1,y,k2,k3⟩:=g5 j x hj
          refine ⟨k1,y,?_,k3⟩
          rw [List.getElem?_toArray,LB (by simpa using Jv),if_pos (by omega)]
          simpa using k2
         ·intro j y hj
          have aD:=(bL hj).1
          rw [List.getElem?_toArray,LB (by simpa using Jv),if_neg (by omega),if_pos (by omega)]
          rw [←hj]
          congr 1
          omega
        have sb:=nj.row g3 (setAt c.toList (n*i.size) ys).toArray
        obtain ⟨q1,q2⟩:=H.move (o:=.arr r.elem (xs++news)) hr jE sb ⟨rfl,g2,_,sb.here,by rw [jJ,g4],zE.mono (aK.wJ H.none)⟩
        refine ⟨_,_,_,gH,?_,q1,q2⟩
        exact F8 ρ h.length r g2 Sr hcm (by omega)
       ·obtain ⟨TX,o1,o2,o3,o4⟩:=g5.WK (o:=0) (n:=n*i.size) (by omega)
        have ayz:(xs.drop 0).take (n*i.size)=xs:=by rw [List.drop_zero];exact List.take_of_length_le (by omega)
        rw [ayz] at o1 o3
        have lI:∀j v,TX[j]?=some v→w.cell? ((⟨r.bw,0,none⟩:Addr).add j)=some v:=by
         intro j v hj
         rw [Addr.add_lit,Iz g3]
         simpa using o4 j v hj
        have aew:=growslice_fits (need:=n+m) (old:=c') (bytes:=P.bytesOf r.elem) (by omega) hb4
        rw [hbe] at aew
        have gH:=run_append_grow (P:=P) w t type r.elem i z ht oJ qZ ⟨r.bw,0,none⟩ n c' TX o2 lI ⟨b,o,none⟩ m c2 ys f4 f5 (by omega) (by unfold maxLen at hb5;omega) aew
        have cJ:=grownCap_ge w (n+m) c' r.elem
        generalize oI:TX.toArray++ys.toArray++Builtin.zeroCells z.cells (grownCap w (n+m) c' r.elem-(n+m))=cc at gH
        have axh:cc.size=n*i.size+m*i.size+(grownCap w (n+m) c' r.elem-(n+m))*i.size:=by
         rw [←oI];simp only [Array.size_append,List.size_toArray,size_zeroCells,o2,f4,SM]
        have zE:gv ρ cc 0 (xs++news):=by
         refine Qi (ys:=ys) ?_ f3 f2 ?_
         ·intro j x hj
          have aD:=(bL hj).1
          obtain ⟨y,k2,k3⟩:=o1.get hj
          refine ⟨o3 x (mem_of_getElem? hj),y,?_,k3⟩
          rw [←oI,Array.append_assoc,Array.getElem?_append_left (by simp;omega)]
          simpa using k2
         ·intro j y hj
          have aD:=(bL hj).1
          rw [←oI,Array.append_assoc,Array.getElem?_append_right (by simp;omega),Array.getElem?_append_left (by simp;omega)]
          rw [←hj,List.getElem?_toArray]
          congr 1
          simp
          omega
        have nb:=jX.drew w (.cells cc r.elem)
        obtain ⟨q1,q2⟩:=H.new (h₀:=h.set ii .dead) (o:=.arr r.elem (xs++news)) (r:=⟨w.heap.size,0,r.elem,P.cellsOf r.elem,cc.size⟩) nb rfl rfl (by simp) (by
          intro j
          by_cases hj:j=ii
          ·subst hj;right;rw [List.getElem?_set_self (H.lt hr)]
          ·left;rw [getElem?_set_ne (Ne.symm hj)]) ⟨rfl,rfl,cc,nb.new,rfl,zE.mono (aK.wJ H.none)⟩
        refine ⟨_,_,_,gH,?_,q1,q2⟩
        refine F8 ρ h.length ⟨w.heap.size,0,r.elem,P.cellsOf r.elem,cc.size⟩ rfl cJ (grownCap_le_maxLen w (n+m) c' r.elem hb5) ?_
        simp only [axh,pq]
        rw [←add_mul,←add_mul]
        exact Nat.mul_le_mul_right _ (by omega)
    ·cases hi
   ·cases hi
  ·cases hi
 ·cases hi
theorem aEQ (H:a9 P ρ h w) {t e tt:TypeId} {type:TypeId} {d x d' x' v:Value} {h':ae} (ht:P.underlying t=some (.slice e)) (hz:(P.info? e).map (·.size)=some 1) (hi:SQ h d x=some (v,h')) (hd:ax ρ d d') (hx:ax ρ x x'):
  ∃w',(Builtin.copy_ #[t,tt] type #[d',x']).run P w=.ok v w'∧ax ρ v v∧a9 P ρ h' w'∧Tr ρ h w ρ h' w':=by
 unfold SQ at hi
 split at hi
 ·rename_i n m cs hn hm qH
  have pv:∃p c,d'=.slice p n c:=by
   unfold qq at hn
   split at hn
   ·cases hd;cases hn;exact ⟨_,_,rfl⟩
   ·cases hd;cases hn;exact ⟨_,_,rfl⟩
   ·cases hn
  have iG:∃p c,x'=.slice p m c:=by
   unfold qq at hm
   split at hm
   ·cases hx;cases hm;exact ⟨_,_,rfl⟩
   ·cases hx;cases hm;exact ⟨_,_,rfl⟩
   ·cases hm
  split at hi
  ·rename_i h0
   simp at hi
   obtain ⟨rfl,rfl⟩:=hi
   obtain ⟨p,c,rfl⟩:=pv
   obtain ⟨q,c',rfl⟩:=iG
   exact ⟨w,run_copy_none (P:=P) w t tt type e p q n c m c' ht hz h0,.int _ _,H,.refl H⟩
  ·rename_i h0
   split at hi
   ·rename_i i o e' n' c0
    split at hi
    ·rename_i e2 xs hg
     split at hi
     ·rename_i hle
      simp only [Option.some.injEq,Prod.mk.injEq] at hi
      obtain ⟨rfl,rfl⟩:=hi
      cases hd with
      | slice hr ho hn2 hc hb=>
       rename_i o' c' r
       simp [qq] at hn
       subst hn
       have hY:0<n':=by
        have:Nat.min m n'≤n':=Nat.min_le_right _ _
        omega
       have dS:o'=r.sh+o:=by
        rcases ho with ho | ⟨q1,q2,q3⟩
        ·exact ho
        ·omega
       subst dS
       obtain ⟨a1,a2,c,a3,a4,a5⟩:=H.arr hr hg
       rcases LI H qH hx with ⟨rfl,rfl⟩ | ⟨b,ob,nn,cc,rfl,hl,hlen,tf,ys,Aj,axQ⟩
       ·obtain ⟨q,c',hq⟩:=iG
        cases hq
        exact absurd (Nat.zero_min n') h0
       ·rw [hm] at hl
        cases hl
        rw [Nat.mul_one] at hlen
        have ayB:=Aj.length
        have aD:(ys.take (Nat.min m n')).length=Nat.min m n':=by
         rw [List.length_take,←ayB,hlen];exact Nat.min_eq_left (Nat.min_le_left _ _)
        have hct:(cs.take (Nat.min m n')).length=Nat.min m n':=by
         rw [List.length_take,hlen];exact Nat.min_eq_left (Nat.min_le_left _ _)
        have Ag:bG ρ (cs.take (Nat.min m n')) (ys.take (Nat.min m n')):=Aj.take _
        have h1c:∀v∈cs.take (Nat.min m n'),gK v=true:=fun v hv=>tf v (List.mem_of_mem_take hv)
        have gH:=run_copy_row (P:=P) w t tt type e r.bw (r.sh+o) n' c' ⟨b,ob,none⟩ m cc c e2 (ys.take (Nat.min m n')) ht hz a3 aD
         (fun j v hj=>by
          rw [List.getElem?_take] at hj
          split at hj
          ·rw [Addr.add_lit];exact axQ j v hj
          ·cases hj) (by have:=a5.le;rw [aD,a2];omega) (Ag.FA h1c)
        rw [aD,a2,zero_add] at gH
        have heq:(c.toList.take o++ys.take (Nat.min m n')++c.toList.drop (o+Nat.min m n')).toArray=(setAt c.toList o (ys.take (Nat.min m n'))).toArray:=by simp only [setAt,aD]
        rw [heq] at gH
        have jE:cF h i:=.inl ⟨e2,xs,hg⟩
        obtain ⟨q1,q2⟩:=H.set (o:=.arr e2 (setAt xs o (cs.take (Nat.min m n')))) hr jE (nj.row a3 (setAt c.toList o (ys.take (Nat.min m n'))).toArray)
         ⟨a1,a2,_,(nj.row a3 _).here,by simp [Wf (show o+(ys.take (Nat.min m n')).length≤c.toList.length by have:=a5.le;simp only [Array.length_toList];omega),a4],a5.put Ag h1c (by omega)⟩
        refine ⟨_,?_,.int _ _,q1,q2⟩
        rw [a2,zero_add];exact gH
     ·cases hi
    ·cases hi
   ·cases hi
 ·cases hi
end
end
section
theorem nj.obj {w:World} {g:Nat} {x:Obj} (hg:w.heap[g]?=some x) (b:Obj):nj w g b { w with heap:=w.heap.setIfInBounds g b } where
 here:=by
  have:=(Array.getElem?_eq_some_iff.1 hg).1
  simp [this]
 other:=by intro j hj;simp [Ne.symm hj]
 size:=by simp
 os:=rfl
 tape:=rfl
 output:=rfl
theorem awM {ρ:aK} {es:List (ByteArray×Value)} {aJ:List MapEntry} (h:nh ρ es aJ) (k:ByteArray) {v v':Value} (hv:ax ρ v v') (born:Nat):∀i:Nat,
  (Instr.findNow .string (.string k) aJ i=some none∧nh ρ (tQ k v es) (aJ++[{ key:=.string k,val:=v',born }]))∨
  (∃u j,Instr.findNow .string (.string k) aJ i=some (some (i+j,u))∧(∃en,aJ[j]?=some en∧en.key=.string k)∧nh ρ (tQ k v es) (aJ.modify j fun e=>{ e with key:=.string k,val:=v' })):=by
 induction h with
 | nil=>intro i;exact .inl ⟨rfl,.cons rfl hv .nil⟩
 | cons h1 h2 h3 ih=>
  rename_i k0 v0 en es aJ
  intro i
  by_cases hk:k=k0
  ·subst hk
   have hb:(k==k)=true:=(MapKept.bytes_beq k k).2 rfl
   refine .inr ⟨en.val,0,?_,⟨en,rfl,h1⟩,?_⟩
   ·simp [Instr.findNow,h1,Instr.sameNow,hb]
   ·simp only [tQ,if_true,List.modify_zero_cons]
    exact .cons rfl hv h3
  ·have hb:(k==k0)=false:=by
    rw [Bool.eq_false_iff]
    exact fun e=>hk ((MapKept.bytes_beq k k0).1 e)
   rcases ih (i+1) with ⟨e1,e2⟩ | ⟨u,j,e1,e2,e3⟩
   ·refine .inl ⟨?_,?_⟩
    ·simp [Instr.findNow,h1,Instr.sameNow,hb,e1]
    ·simp only [tQ,if_neg hk,List.cons_append]
     exact .cons h1 h2 e2
   ·refine .inr ⟨u,j+1,?_,by simpa using e2,?_⟩
    ·simp [Instr.findNow,h1,Instr.sameNow,hb,e1];omega
    ·simp only [tQ,if_neg hk,List.modify_succ_cons]
     exact .cons h1 h2 e3
theorem awN {kd:IntKind} {ρ:aK} {es:List (Int×Value)} {aJ:List MapEntry} (h:ni kd ρ es aJ) (k:Int) {v v':Value} (hv:ax ρ v v') (born:Nat):∀i:Nat,
  (Instr.findNow (.int kd) (.int kd k) aJ i=some none∧ni kd ρ (oR k v es) (aJ++[{ key:=.int kd k,val:=v',born }]))∨
  (∃u j,Instr.findNow (.int kd) (.int kd k) aJ i=some (some (i+j,u))∧(∃en,aJ[j]?=some en∧en.key=.int kd k)∧ni kd ρ (oR k v es) (aJ.modify j fun e=>{ e with key:=.int kd k,val:=v' })):=by
 induction h with
 | nil=>intro i;exact .inl ⟨rfl,.cons rfl hv .nil⟩
 | cons h1 h2 h3 ih=>
  rename_i k0 v0 en es aJ
  intro i
  by_cases hk:k=k0
  ·subst hk
   have hb:(k==k)=true:=beq_self_eq_true k
   refine .inr ⟨en.val,0,?_,⟨en,rfl,h1⟩,?_⟩
   ·simp [Instr.findNow,h1,Instr.sameNow]
   ·simp only [oR,if_true,List.modify_zero_cons]
    exact .cons rfl hv h3
  ·have hb:(k==k0)=false:=by
    exact beq_false_of_ne hk
   rcases ih (i+1) with ⟨e1,e2⟩ | ⟨u,j,e1,e2,e3⟩
   ·refine .inl ⟨?_,?_⟩
    ·simp [Instr.findNow,h1,Instr.sameNow,hb,e1]
    ·simp only [oR,if_neg hk,List.cons_append]
     exact .cons h1 h2 e2
   ·refine .inr ⟨u,j+1,?_,by simpa using e2,?_⟩
    ·simp [Instr.findNow,h1,Instr.sameNow,hb,e1];omega
    ·simp only [oR,if_neg hk,List.modify_succ_cons]
     exact .cons h1 h2 e3
section
variable {P : Program} {w : World} {ρ : aK} {h : ae}
theorem aE3 (H:a9 P ρ h w) (t:TypeId):∃w' av v',(Instr.makeMap t none).run P w=.ok v' w'∧ax av (.map (some h.length)) v'∧a9 P av (h++[.smap []]) w'∧Tr ρ h w av (h++[.smap []]) w':=by
 have nb:=jX.alloc w (.map #[] 0)
 obtain ⟨q1,q2⟩:=H.new (h₀:=h) (o:=.smap []) (r:=⟨w.heap.size,0,0,P.cellsOf 0,0⟩) nb rfl rfl rfl (fun _=>.inl rfl) ⟨#[],0,nb.new,rfl,fun j k v hj=>by simp at hj⟩
 refine ⟨_,_,.map (some w.heap.size),?_,ax.map (Bw _ _ _),q1,q2⟩
 simp [Instr.makeMap]
theorem aE5 (H:a9 P ρ h w) (t:TypeId) (kd:IntKind):∃w' av v',(Instr.makeMap t none).run P w=.ok v' w'∧ax av (.map (some h.length)) v'∧a9 P av (h++[.fm kd []]) w'∧Tr ρ h w av (h++[.fm kd []]) w':=by
 have nb:=jX.alloc w (.map #[] 0)
 obtain ⟨q1,q2⟩:=H.new (h₀:=h) (o:=.fm kd []) (r:=⟨w.heap.size,0,0,P.cellsOf 0,0⟩) nb rfl rfl rfl (fun _=>.inl rfl) ⟨#[],0,nb.new,rfl,fun j k v hj=>by simp at hj⟩
 refine ⟨_,_,.map (some w.heap.size),?_,ax.map (Bw _ _ _),q1,q2⟩
 simp [Instr.makeMap]
theorem yw {g:Nat} {aJ:Array MapEntry} {clock:Nat} (hg:w.heap[g]?=some (.map aJ clock)) (o:Obj):(setObj g o).run P w=.ok () { w with heap:=w.heap.setIfInBounds g o }:=by
 simp [setObj,Sem.run,hg]
theorem am4 (H:a9 P ρ h w) {t kt et:TypeId} {m m' k k' v v':Value} {h':ae} (ht:P.underlying t=some (.map kt et)) (hk:isString P kt=true)
  (hi:SV h m k v=some h') (hm:ax ρ m m') (jI:ax ρ k k') (hv:ax ρ v v'):∃w',(Instr.mapUpdate t m' k' v').run P w=.ok () w'∧a9 P ρ h' w'∧Tr ρ h w ρ h' w':=by
 unfold SV at hi
 split at hi
 ·rename_i i key
  rw [jI.wY]
  cases hm with
  | map hr=>
   rename_i r
   split at hi
   ·rename_i es he
    simp at hi;subst hi
    obtain ⟨aJ,clock,hb,zM⟩:=H.aJ hr he
    have mR:=af0 hk
    have jE:cF h i:=.inr (.inl ⟨es,he⟩)
    have mk:∀(qE:Array MapEntry) (sW:Nat),nh ρ (tQ key v es) qE.toList→a9 P ρ (h.set i (.smap (tQ key v es))) { w with heap:=w.heap.setIfInBounds r.bw (.map qE sW) }∧
      Tr ρ h w ρ (h.set i (.smap (tQ key v es))) { w with heap:=w.heap.setIfInBounds r.bw (.map qE sW) }:=by
     intro qE sW fV
     have sb:=nj.obj hb (.map qE sW)
     have:=fV.to
     exact H.set (o:=.smap (tQ key v es)) hr jE sb ⟨qE,sW,sb.here,by simpa using this.1,by simpa using this.2⟩
    rcases awM zM key hv clock 0 with ⟨e1,e2⟩ | ⟨u,j,e1,⟨en,e2,ze⟩,e3⟩
    ·obtain ⟨q1,q2⟩:=mk (aJ.push { key:=.string key,val:=v',born:=clock }) (clock+1) (by simpa using e2)
     refine ⟨_,?_,q1,q2⟩
     simp [Instr.mapUpdate,run_underlying ht,run_getObj_map hb,run_checkKey _ mR,run_findKey mR key _ e1,yw hb]
    ·obtain ⟨q1,q2⟩:=mk (aJ.modify j fun e=>{ e with key:=.string key,val:=v' }) clock (by simpa using e3)
     refine ⟨_,?_,q1,q2⟩
     have bX:aJ[j]?=some en:=by simpa using e2
     have Ac:Instr.sameBits 10000 (.string key) (.string key)=true:=by
      simp [Instr.sameBits,(MapKept.bytes_beq key key).2 rfl]
     have ES:(Instr.keyThatStays (((aJ[j]?).map (·.key)).getD (.string key)) (.string key)).run P w=.ok (.string key) w:=by
      rw [bX]
      simp [Instr.keyThatStays,ze,Ac]
     simp only [Instr.mapUpdate,Sem.run_bind,run_underlying ht,Result.andThen_ok,run_getObj_map hb,run_checkKey _ mR,run_findKey mR key _ e1]
     simp only [zero_add,ES,Result.andThen_ok,yw hb]
   ·cases hi
 ·cases hi
theorem am6 (H:a9 P ρ h w) {t kt et:TypeId} {kd:IntKind} {m m' k k' v v':Value} {h':ae} (ht:P.underlying t=some (.map kt et)) (hk:Au P kt=some kd)
  (hi:E6 kd h m k v=some h') (hm:ax ρ m m') (jI:ax ρ k k') (hv:ax ρ v v'):∃w',(Instr.mapUpdate t m' k' v').run P w=.ok () w'∧a9 P ρ h' w'∧Tr ρ h w ρ h' w':=by
 unfold E6 at hi
 split at hi
 ·rename_i i Cy key
  rw [jI.mU]
  cases hm with
  | map hr=>
   rename_i r
   split at hi
   ·rename_i nW es he
    split at hi
    ·rename_i pz
     obtain ⟨rfl,rfl⟩:=pz
     simp at hi;subst hi
     obtain ⟨aJ,clock,hb,zM⟩:=H.adA hr he
     have mR:=afX hk
     have jE:cF h i:=.inr (.inr (.inr (.inl ⟨_,es,he⟩)))
     have mk:∀(qE:Array MapEntry) (sW:Nat),ni nW ρ (oR key v es) qE.toList→a9 P ρ (h.set i (.fm nW (oR key v es))) { w with heap:=w.heap.setIfInBounds r.bw (.map qE sW) }∧
       Tr ρ h w ρ (h.set i (.fm nW (oR key v es))) { w with heap:=w.heap.setIfInBounds r.bw (.map qE sW) }:=by
      intro qE sW fV
      have sb:=nj.obj hb (.map qE sW)
      have:=fV.to
      exact H.set (o:=.fm nW (oR key v es)) hr jE sb ⟨qE,sW,sb.here,by simpa using this.1,by simpa using this.2⟩
     rcases awN zM key hv clock 0 with ⟨e1,e2⟩ | ⟨u,j,e1,⟨en,e2,ze⟩,e3⟩
     ·obtain ⟨q1,q2⟩:=mk (aJ.push { key:=.int nW key,val:=v',born:=clock }) (clock+1) (by simpa using e2)
      refine ⟨_,?_,q1,q2⟩
      simp [Instr.mapUpdate,run_underlying ht,run_getObj_map hb,Lw _ mR,Lx mR key _ e1,yw hb]
     ·obtain ⟨q1,q2⟩:=mk (aJ.modify j fun e=>{ e with key:=.int nW key,val:=v' }) clock (by simpa using e3)
      refine ⟨_,?_,q1,q2⟩
      have bX:aJ[j]?=some en:=by simpa using e2
      have Ac:∀kd,Instr.sameBits 10000 (.int kd key) (.int kd key)=true:=by
       intro kd
       simp [Instr.sameBits]
      have ES:(Instr.keyThatStays (((aJ[j]?).map (·.key)).getD (.int nW key)) (.int nW key)).run P w=.ok (.int nW key) w:=by
       rw [bX]
       simp [Instr.keyThatStays,ze,Ac]
      simp only [Instr.mapUpdate,Sem.run_bind,run_underlying ht,Result.andThen_ok,run_getObj_map hb,Lw _ mR,Lx mR key _ e1]
      simp only [zero_add,ES,Result.andThen_ok,yw hb]
    ·cases hi
   ·cases hi
 ·cases hi
theorem aE4 (H:a9 P ρ h w) (t:TypeId) (g:gf):∃w' av v',(Instr.makeMap t none).run P w=.ok v' w'∧ax av (.map (some h.length)) v'∧a9 P av (h++[.cU g 0 []]) w'∧Tr ρ h w av (h++[.cU g 0 []]) w':=by
 have nb:=jX.alloc w (.map #[] 0)
 obtain ⟨q1,q2⟩:=H.new (h₀:=h) (o:=.cU g 0 []) (r:=⟨w.heap.size,0,0,P.cellsOf 0,0⟩) nb rfl rfl rfl (fun _=>.inl rfl) ⟨by simp,#[],nb.new,rfl,fun j b k v hj=>by simp at hj⟩
 refine ⟨_,_,.map (some w.heap.size),?_,ax.map (Bw _ _ _),q1,q2⟩
 simp [Instr.makeMap]
theorem sS.set {g:gf} {c:Nat} {es:List (Nat×Value×Value)} {aJ:Array MapEntry} (E:sS ρ g es aJ) {k v v':Value} (hk:fz g k=true) (hv:ax ρ v v'):
  (mm k es=none→sS ρ g (es++[(c,k,v)]) (aJ.push { key:=k,val:=v',born:=c }))∧∀j b u,mm k es=some j→es[j]?=some (b,k,u)→sS ρ g (es.modify j fun e=>(e.1,k,v)) (aJ.modify j fun e=>{ e with key:=k,val:=v' }):=by
 constructor
 ·intro hp
  have dh:∀e∈es,e.2.1≠k:=by
   rcases Lb hk es with ⟨_,h2⟩ | ⟨j,e,h1,_⟩
   ·exact h2
   ·rw [hp] at h1;cases h1
  refine ⟨by simp [E.size],?_,?_⟩
  ·rw [List.map_append,List.nodup_append]
   refine ⟨E.nodup,by simp,?_⟩
   intro a ha b hb
   obtain ⟨e,he,rfl⟩:=List.mem_map.1 ha
   simp at hb
   subst hb
   exact dh e he
  ·intro j b k1 v1 hj
   by_cases aD:j<es.length
   ·rw [getElem?_append_left aD] at hj
    obtain ⟨g1,en,g2,g3⟩:=E.get j b k1 v1 hj
    exact ⟨g1,en,by rw [Array.getElem?_push_lt (by rw [E.size];exact aD)];rw [getElem?_eq_getElem (by rw [E.size];exact aD)] at g2;exact g2,g3⟩
   ·rw [List.getElem?_append_right (by omega)] at hj
    have nU:j=es.length:=by
     have:=(bL hj).1
     simp at this
     omega
    subst nU
    simp at hj
    obtain ⟨rfl,rfl,rfl⟩:=hj
    exact ⟨hk,{ key:=k,val:=v',born:=c },by rw [←E.size];simp,rfl,rfl,hv⟩
 ·intro j b u hp hj
  have axL:((es.modify j fun e=>(e.1,k,v)).map fun e=>e.2.1)=es.map fun e=>e.2.1:=by
   apply List.ext_getElem?
   intro i
   simp only [List.getElem?_map,List.getElem?_modify]
   by_cases eP:j=i
   ·subst eP;simp [hj]
   ·simp [eP]
  refine ⟨by simp [E.size],by rw [axL];exact E.nodup,?_⟩
  intro i b1 k1 v1 hi
  rw [List.getElem?_modify] at hi
  by_cases eP:j=i
  ·subst eP
   simp [hj] at hi
   obtain ⟨rfl,rfl,rfl⟩:=hi
   obtain ⟨g1,en,g2,g3,g4,_⟩:=E.get j b k u hj
   refine ⟨hk,{ en with key:=k,val:=v' },?_,rfl,g4,hv⟩
   rw [Array.getElem?_modify]
   simp [g2]
  ·simp [eP] at hi
   obtain ⟨g1,en,g2,g3⟩:=E.get i b1 k1 v1 hi
   refine ⟨g1,en,?_,g3⟩
   rw [Array.getElem?_modify]
   simp [eP,g2]
theorem am5 (H:a9 P ρ h w) {t:TypeId} {g:gf} {m m' k k' v v':Value} {h':ae} (hg:rU P t=some g)
  (hi:Cr g h m k v=some h') (hm:ax ρ m m') (jI:ax ρ k k') (hv:ax ρ v v'):∃w',(Instr.mapUpdate t m' k' v').run P w=.ok () w'∧a9 P ρ h' w'∧Tr ρ h w ρ h' w':=by
 obtain ⟨kt,et,ht,L⟩:=Jg hg
 unfold Cr at hi
 split at hi
 ·rename_i i
  cases hm with
  | map hr=>
   rename_i r
   split at hi
   ·rename_i g' c es he
    split at hi
    ·rename_i pz
     obtain ⟨rfl,hk,_⟩:=pz
     simp at hi;subst hi
     rw [jI.key hk]
     obtain ⟨aJ,hb,E⟩:=H.BL hr he
     have jE:cF h i:=.inr (.inr (.inr (.inr (.inl ⟨_,_,es,he⟩))))
     obtain ⟨S1,S2⟩:=E.set (c:=c) hk hv
     rcases V1 (w:=w) L E hk with ⟨⟨e1,_⟩,e2⟩ | ⟨j,b,u,en,e1,e2,e3,e4,e5,e6,e7⟩
     ·have E':=S1 e1
      have sb:=nj.obj hb (.map (aJ.push { key:=k,val:=v',born:=c }) (c+1))
      have lZ:mo c k v es=es++[(c,k,v)]:=by simp [mo,e1]
      have Ru:pg c k es=c+1:=by simp [pg,e1]
      obtain ⟨q1,q2⟩:=H.set (o:=.cU g' (pg c k es) (mo c k v es)) hr jE sb (by rw [lZ,Ru];exact ⟨E'.nodup,_,sb.here,E'.size,E'.get⟩)
      refine ⟨_,?_,q1,q2⟩
      simp [Instr.mapUpdate,run_underlying ht,run_getObj_map hb,L.check w _ k hk,e2,yw hb]
     ·have E':=S2 j b u e1 e2
      have sb:=nj.obj hb (.map (aJ.modify j fun e=>{ e with key:=k,val:=v' }) c)
      have lZ:mo c k v es=es.modify j fun e=>(e.1,k,v):=by simp [mo,e1]
      have Ru:pg c k es=c:=by simp [pg,e1]
      obtain ⟨q1,q2⟩:=H.set (o:=.cU g' (pg c k es) (mo c k v es)) hr jE sb (by rw [lZ,Ru];exact ⟨E'.nodup,_,sb.here,E'.size,E'.get⟩)
      refine ⟨_,?_,q1,q2⟩
      have ES:(Instr.keyThatStays (((aJ[j]?).map (·.key)).getD k) k).run P w=.ok k w:=by
       rw [e3]
       simp [e4,L.stays w k hk]
      simp only [Instr.mapUpdate,Sem.run_bind,run_underlying ht,Result.andThen_ok,run_getObj_map hb,L.check w _ k hk,e7]
      simp only [ES,Result.andThen_ok,yw hb]
    ·cases hi
   ·cases hi
 ·cases hi
theorem sS.era {g:gf} {es:List (Nat×Value×Value)} {aJ:Array MapEntry} (E:sS ρ g es aJ) {j:Nat} (hj:j<es.length):sS ρ g (es.eraseIdx j) (aJ.eraseIdxIfInBounds j):=by
 have aD:j<aJ.size:=by rw [E.size];exact hj
 have he:aJ.eraseIdxIfInBounds j=aJ.eraseIdx j aD:=by simp [Array.eraseIdxIfInBounds,aD]
 rw [he]
 refine ⟨by rw [Array.size_eraseIdx,List.length_eraseIdx,if_pos hj,E.size],?_,?_⟩
 ·refine List.Nodup.sublist ?_ E.nodup
  exact (List.eraseIdx_sublist _ _).map _
 ·intro i b k v hi
  rw [List.getElem?_eraseIdx] at hi
  split at hi
  ·rename_i eP
   obtain ⟨g1,en,g2,g3⟩:=E.get i b k v hi
   exact ⟨g1,en,by rw [Array.getElem?_eraseIdx,if_pos eP];exact g2,g3⟩
  ·rename_i eP
   obtain ⟨g1,en,g2,g3⟩:=E.get (i+1) b k v hi
   exact ⟨g1,en,by rw [Array.getElem?_eraseIdx,if_neg eP];exact g2,g3⟩
theorem aER (H:a9 P ρ h w) {t ty:TypeId} {ts:Array TypeId} {g:gf} {m m' k k':Value} {h':ae} (EV:ts[0]?=some t) (hg:rU P t=some g)
  (hi:E4 g h m k=some h') (hm:ax ρ m m') (jI:ax ρ k k'):∃w',(Builtin.delete_ ts ty #[m',k']).run P w=.ok (.tuple #[]) w'∧a9 P ρ h' w'∧Tr ρ h w ρ h' w':=by
 obtain ⟨kt,et,ht,L⟩:=Jg hg
 unfold E4 at hi
 split at hi
 ·rename_i i
  cases hm with
  | map hr=>
   rename_i r
   split at hi
   ·rename_i g' c es he
    split at hi
    ·rename_i pz
     obtain ⟨rfl,hk⟩:=pz
     simp at hi;subst hi
     rw [jI.key hk]
     obtain ⟨aJ,hb,E⟩:=H.BL hr he
     have jE:cF h i:=.inr (.inr (.inr (.inr (.inl ⟨_,_,es,he⟩))))
     rcases V1 (w:=w) L E hk with ⟨⟨e1,_⟩,e2⟩ | ⟨j,b,u,en,e1,e2,e3,e4,e5,e6,e7⟩
     ·have sb:=nj.obj hb (.map aJ c)
      have lZ:rP k es=es:=by simp [rP,e1]
      obtain ⟨q1,q2⟩:=H.set (o:=.cU g' c (rP k es)) hr jE sb (by rw [lZ];exact ⟨E.nodup,_,sb.here,E.size,E.get⟩)
      refine ⟨_,?_,q1,q2⟩
      simp [Builtin.delete_,EV,run_underlying ht,run_getObj_map hb,L.check w _ k hk,e2,yw hb]
     ·have E':=E.era (bL e2).1
      have sb:=nj.obj hb (.map (aJ.eraseIdxIfInBounds j) c)
      have lZ:rP k es=es.eraseIdx j:=by simp [rP,e1]
      obtain ⟨q1,q2⟩:=H.set (o:=.cU g' c (rP k es)) hr jE sb (by rw [lZ];exact ⟨E'.nodup,_,sb.here,E'.size,E'.get⟩)
      refine ⟨_,?_,q1,q2⟩
      simp [Builtin.delete_,EV,run_underlying ht,run_getObj_map hb,L.check w _ k hk,e7,yw hb]
    ·cases hi
   ·cases hi
 ·cases hi
theorem aE8 (H:a9 P ρ h w) {t:TypeId} {g:gf} {x x' v:Value} {h':ae} (hg:rU P t=some g) (hi:Cs h x=some (v,h')) (hx:ax ρ x x'):
  ∃w' av v',(Instr.range t x').run P w=.ok v' w'∧ax av v v'∧a9 P av h' w'∧Tr ρ h w av h' w':=by
 obtain ⟨kt,et,ht,L⟩:=Jg hg
 unfold Cs at hi
 split at hi
 ·rename_i i
  cases hx with
  | map hr=>
   rename_i r
   split at hi
   ·rename_i g' c es he
    simp at hi
    obtain ⟨rfl,rfl⟩:=hi
    obtain ⟨aJ,hb,E⟩:=H.BL hr he
    have nb:=jX.alloc w (.mapIter (some r.bw) c #[] c)
    have bp:i≠h.length:=by
     have:=(bL he).1
     omega
    obtain ⟨q1,q2⟩:=H.new (h₀:=h) (o:=.iter i c [] c) (r:=⟨w.heap.size,0,0,P.cellsOf 0,0⟩) nb rfl rfl rfl (fun _=>.inl rfl)
     ⟨rfl,r,by simp [aK.add,bp,hr],nb.new⟩
    refine ⟨_,_,.pointer (some ⟨w.heap.size,0,none⟩),?_,?_,q1,q2⟩
    ·simp [Instr.range,run_underlying ht,run_getObj_map hb,newObj,Sem.run,Result.andThen]
    ·exact ax.ptr (o:=0) (Bw _ _ _)
   ·cases hi
 ·cases hi
theorem kn.val {v v':Value} {h':ae} {s:Result Next} {w':World} {av:aK} (e:s=.ok (.value v') w') (a:ax av v v') (b:a9 P av h' w') (c:Tr ρ h w av h' w'):kn P ρ h w v h' s:=
 ⟨_,_,_,_,e,.inl rfl,a,b,c⟩
theorem kn.skip {h':ae} {s:Result Next} {w':World} (e:s=.ok .skip w') (b:a9 P ρ h' w') (c:Tr ρ h w ρ h' w'):kn P ρ h w undef h' s:=
 ⟨_,_,_,_,e,.inr ⟨rfl,rfl⟩,ax.undef _,b,c⟩
theorem awj {o:Oper} {eo:pJ} {g g':Operand→Value} (hc:iU P o.op=some eo) (aE:o.op.operands.all jM=true) (H:a9 P ρ h w)
  (hg:∀x,jM x=true→ax ρ (g x) (g' x)) {v:Value} {h':ae} (hi:gw eo g h=some (v,h')):kn P ρ h w v h' ((execOp g' o).run P w):=by
 cases ho:o.op with
 | store t a x=>
  rw [ho] at hc aE
  simp [Op.operands] at aE
  simp only [iU] at hc
  split at hc
  ·rename_i hk
   simp at hc;subst hc
   simp only [gw,map_eq_some_iff,Prod.mk.injEq] at hi
   obtain ⟨aW,hi,rfl,rfl⟩:=hi
   obtain ⟨w',q1,q2,q3⟩:=aFb H hk hi (hg a aE.1) (hg x aE.2)
   exact kn.skip (w':=w') (by simp [execOp,ho,q1]) q2 q3
  ·cases hc
 | box e x=>
  rw [ho] at hc aE
  simp [Op.operands] at aE
  simp [iU] at hc;subst hc
  obtain ⟨w',av,v',q1,q2,q3,q4⟩:=aEN H hi (hg x aE)
  exact kn.val (v':=v') (w':=w') (by simp [execOp,ho,q1]) q2 q3 q4
 | alloc e=>
  rw [ho] at hc
  simp only [iU,map_eq_some_iff] at hc
  obtain ⟨zs,hz,rfl⟩:=hc
  simp [gw] at hi
  obtain ⟨rfl,rfl⟩:=hi
  obtain ⟨w',av,v',q1,q2,q3,q4⟩:=aEJ H hz
  exact kn.val (v':=v') (w':=w') (by simp [execOp,ho,q1]) q2 q3 q4
 | buildSlice t n ps=>
  rw [ho] at hc aE
  simp only [iU] at hc
  simp only [Op.operands] at aE
  split at hc
  ·rename_i e ht
   split at hc
   ·rename_i zs hz
    split at hc
    ·rename_i hb
     simp at hc;subst hc
     have hq:∀q∈ps.toList,jM q.2=true:=by
      intro q hm
      rw [Array.all_eq_true'] at aE
      exact aE q.2 (by simp;exact ⟨q.1,by simpa using hm⟩)
     have hp:=Vm hg (fun i=>(i*P.cellsOf e,P.cellsOf e)) ps.toList hq
     obtain ⟨w',av,v',q1,q2,q3,q4⟩:=aE6 H ht hz hb.1 hb.2 (qs:=ps.map fun (i,x)=>(i,g' x)) (by simpa using hp) hi
     exact kn.val (v':=v') (w':=w') (by simp [execOp,ho,q1]) q2 q3 q4
    ·cases hc
   ·cases hc
  ·cases hc
 | makeSlice t l c=>
  rw [ho] at hc aE
  simp [Op.operands] at aE
  simp only [iU] at hc
  split at hc
  ·rename_i e ht
   split at hc
   ·rename_i zs hz
    simp at hc;subst hc
    obtain ⟨w',av,v',q1,q2,q3,q4⟩:=aE2 H ht hz hi (hg l aE.1) (hg c aE.2)
    exact kn.val (v':=v') (w':=w') (by simp [execOp,ho,q1]) q2 q3 q4
   ·cases hc
  ·cases hc
 | range t x=>
  rw [ho] at hc aE
  simp [Op.operands] at aE
  simp only [iU,map_eq_some_iff] at hc
  obtain ⟨g,kT,rfl⟩:=hc
  obtain ⟨w',av,v',q1,q2,q3,q4⟩:=aE8 H kT hi (hg x aE)
  exact kn.val (v':=v') (w':=w') (by simp [execOp,ho,q1]) q2 q3 q4
 | next it b=>
  rw [ho] at hc
  cases b with
  | false=>simp [iU] at hc;subst hc;simp [gw] at hi
  | true=>simp [iU] at hc
 | makeMap t r=>
  rw [ho] at hc
  cases r with
  | none=>
   cases kT:rU P t with
   | some g=>
    simp only [iU,kT,Option.some.injEq] at hc
    subst hc
    simp [gw] at hi
    obtain ⟨rfl,rfl⟩:=hi
    obtain ⟨w',av,v',q1,q2,q3,q4⟩:=aE4 H t g
    exact kn.val (v':=v') (w':=w') (by simp [execOp,ho,q1]) q2 q3 q4
   | none=>
   have two:eo=.mkMap∨∃kd,eo=.Ko kd:=by
    simp only [iU,kT] at hc
    split at hc
    ·split at hc
     ·simp at hc;exact .inr ⟨_,hc.symm⟩
     ·simp at hc;exact .inl hc.symm
    ·simp at hc;exact .inl hc.symm
   rcases two with rfl | ⟨kd,rfl⟩
   ·simp [gw] at hi
    obtain ⟨rfl,rfl⟩:=hi
    obtain ⟨w',av,v',q1,q2,q3,q4⟩:=aE3 H t
    exact kn.val (v':=v') (w':=w') (by simp [execOp,ho,q1]) q2 q3 q4
   ·simp [gw] at hi
    obtain ⟨rfl,rfl⟩:=hi
    obtain ⟨w',av,v',q1,q2,q3,q4⟩:=aE5 H t kd
    exact kn.val (v':=v') (w':=w') (by simp [execOp,ho,q1]) q2 q3 q4
  | some r=>simp [iU] at hc
 | mapUpdate t m k x=>
  rw [ho] at hc aE
  simp [Op.operands] at aE
  simp only [iU] at hc
  split at hc
  ·rename_i g kT
   simp at hc;subst hc
   simp only [gw,map_eq_some_iff,Prod.mk.injEq] at hi
   obtain ⟨aW,hi,rfl,rfl⟩:=hi
   obtain ⟨w',q1,q2,q3⟩:=am5 H kT hi (hg m aE.1) (hg k aE.2.1) (hg x aE.2.2)
   exact kn.skip (w':=w') (by simp [execOp,ho,q1]) q2 q3
  split at hc
  ·rename_i kt et ht
   split at hc
   ·rename_i hk
    simp at hc;subst hc
    simp only [gw,map_eq_some_iff,Prod.mk.injEq] at hi
    obtain ⟨aW,hi,rfl,rfl⟩:=hi
    obtain ⟨w',q1,q2,q3⟩:=am4 H ht hk hi (hg m aE.1) (hg k aE.2.1) (hg x aE.2.2)
    exact kn.skip (w':=w') (by simp [execOp,ho,q1]) q2 q3
   ·simp only [map_eq_some_iff] at hc
    obtain ⟨kd,pz,rfl⟩:=hc
    simp only [gw,map_eq_some_iff,Prod.mk.injEq] at hi
    obtain ⟨aW,hi,rfl,rfl⟩:=hi
    obtain ⟨w',q1,q2,q3⟩:=am6 H ht pz hi (hg m aE.1) (hg k aE.2.1) (hg x aE.2.2)
    exact kn.skip (w':=w') (by simp [execOp,ho,q1]) q2 q3
  ·cases hc
 | insert t m k x=>
  rw [ho] at hc aE
  simp [Op.operands] at aE
  simp only [iU] at hc
  split at hc
  ·rename_i g kT
   simp at hc;subst hc
   simp only [gw,map_eq_some_iff,Prod.mk.injEq] at hi
   obtain ⟨aW,hi,rfl,rfl⟩:=hi
   obtain ⟨w',q1,q2,q3⟩:=am5 H kT hi (hg m aE.1) (hg k aE.2.1) (hg x aE.2.2)
   exact kn.skip (w':=w') (by simp [execOp,ho,q1]) q2 q3
  split at hc
  ·rename_i kt et ht
   split at hc
   ·rename_i hk
    simp at hc;subst hc
    simp only [gw,map_eq_some_iff,Prod.mk.injEq] at hi
    obtain ⟨aW,hi,rfl,rfl⟩:=hi
    obtain ⟨w',q1,q2,q3⟩:=am4 H ht hk hi (hg m aE.1) (hg k aE.2.1) (hg x aE.2.2)
    exact kn.skip (w':=w') (by simp [execOp,ho,q1]) q2 q3
   ·simp only [map_eq_some_iff] at hc
    obtain ⟨kd,pz,rfl⟩:=hc
    simp only [gw,map_eq_some_iff,Prod.mk.injEq] at hi
    obtain ⟨aW,hi,rfl,rfl⟩:=hi
    obtain ⟨w',q1,q2,q3⟩:=am6 H ht pz hi (hg m aE.1) (hg k aE.2.1) (hg x aE.2.2)
    exact kn.skip (w':=w') (by simp [execOp,ho,q1]) q2 q3
  ·cases hc
 | call c=>
  rw [ho] at hc aE
  obtain ⟨callee,args,argTypes⟩:=c
  cases callee with
  | builtin b=>
   cases b with
   | append=>
    simp only [iU] at hc
    split at hc
    ·rename_i s x t t' hx wz
     obtain rfl:args=#[s,x]:=ext' hx
     obtain rfl:argTypes=#[t,t']:=ext' wz
     simp [Op.operands,Call.operands] at aE
     split at hc
     ·rename_i hte
      subst hte
      split at hc
      ·rename_i e ht
       split at hc
       ·rename_i zs hz
        simp at hc;subst hc
        obtain ⟨w',av,v',q1,q2,q3,q4⟩:=aEK (type:=o.type) H ht hz hi (hg s aE.1) (hg x aE.2)
        exact kn.val (v':=v') (w':=w') (by simp [execOp,ho,resolve,invoke,builtin,q1]) q2 q3 q4
       ·cases hc
      ·cases hc
     ·cases hc
    ·cases hc
   | copy=>
    simp only [iU] at hc
    split at hc
    ·rename_i d x t t' hx wz
     obtain rfl:args=#[d,x]:=ext' hx
     obtain rfl:argTypes=#[t,t']:=ext' wz
     simp [Op.operands,Call.operands] at aE
     split at hc
     ·rename_i e ht
      split at hc
      ·rename_i hz
       simp at hc;subst hc
       obtain ⟨w',q1,q2,q3,q4⟩:=aEQ (tt:=t') (type:=o.type) H ht hz hi (hg d aE.1) (hg x aE.2)
       exact kn.val (v':=v) (w':=w') (by simp [execOp,ho,resolve,invoke,builtin,q1]) q2 q3 q4
      ·cases hc
     ·cases hc
    ·cases hc
   | delete=>
    simp only [iU] at hc
    split at hc
    ·rename_i m k t hx wz
     obtain rfl:args=#[m,k]:=ext' hx
     simp [Op.operands,Call.operands] at aE
     simp only [map_eq_some_iff] at hc
     obtain ⟨g,kT,rfl⟩:=hc
     simp only [gw,map_eq_some_iff,Prod.mk.injEq] at hi
     obtain ⟨aW,hi,rfl,rfl⟩:=hi
     obtain ⟨w',q1,q2,q3⟩:=aER (ty:=o.type) H wz kT hi (hg m aE.1) (hg k aE.2)
     exact kn.val (v':=.tuple #[]) (w':=w') (by simp [execOp,ho,resolve,invoke,builtin,q1]) (ax.undef _) q2 q3
    ·cases hc
   | _=>simp [iU] at hc
  | _=>simp [iU] at hc
 | panic x=>rw [ho] at hc;simp [iU] at hc;subst hc;simp [gw] at hi
 | makeInterface t x=>rw [ho] at hc;simp [iU] at hc;subst hc;simp [gw] at hi
 | _=>rw [ho] at hc;simp [iU] at hc
end
end
section
inductive iz where
 | p (o:qC)
 | l (o:pK)
 | e (o:pJ)
 | call (f:FuncId) (args:List Operand)
 | lG (x:Operand) (args:List Operand)
structure jo where
 dst:Option Nat
 op:iz
 guard:Option (Nat×Bool)
structure jA where
 dst:Option Nat
 op:iz
structure cY where
 op:jo
 pre:Nat
structure ko where
 dst:Option Nat
 op:iz
 pre:Nat
inductive fx where
 | skip
 | IM (l:List (Option (Nat×Bool)×List ko))
 | ops (g:Option (Nat×Bool)) (l:List jA)
 | seq (a b:fx)
 | cut (ls:List Nat) (c:fx)
 | cond (c:Operand) (a b:fx)
 | block (id:Nat) (c:fx)
 | loop (ks ls:List Nat) (c:fx)
 | exit (id:Nat)
 | ret
 | range (g:Operand) (ls:List Nat) (c:Du)
abbrev FR (R:Option Nat):Fence:={ Fence.wide with round:=R }
def xk (P:Program) (F:FuncId) (args:List Value) (h:ae) (v:Value) (h':ae):Prop:=
 ∀(ρ:aK) (args':Array Value) (w:World),bG ρ args args'.toList→a9 P ρ h w→
  Calls P F args' w fun e w'=>∃v' av,e=.returned v'∧ax av v v'∧a9 P av h' w'∧Tr ρ h w av h' w'
def sA (P:Program) (F:FuncId) (args:List Value) (h:ae) (K:Value→ae→Prop):Prop:=∃v h',xk P F args h v h'∧K v h'
theorem sA.mono {P:Program} {F:FuncId} {args:List Value} {h:ae} {K K':Value→ae→Prop} (hc:sA P F args h K) (hk:∀v h',K v h'→K' v h'):sA P F args h K':=
 let ⟨v,h',a,b⟩:=hc;⟨v,h',a,hk v h' b⟩
def MN (P:Program) (i:Nat) (args:List Value) (h:ae) (v:Value) (h':ae):Prop:=
 ∀(ρ:aK) (r:RI) (args':Array Value) (w:World),ρ i=some r→bG ρ args args'.toList→a9 P ρ h w→
  ∃fn tmps ky body,(Instr.yield r.bw args').run P w=.ok (.round r.bw fn tmps ky body) w∧
   RoundIn Fence.wide 0 P r.bw fn tmps ky body w fun e w'=>∃v' av,e=.returned v'∧ax av v v'∧a9 P av h' w'∧Tr ρ h w av h' w'
def E9 (P:Program) (i:Nat) (args:List Value) (h:ae) (K:Value→ae→Prop):Prop:=∃v h',MN P i args h v h'∧K v h'
theorem E9.mono {P:Program} {i:Nat} {args:List Value} {h:ae} {K K':Value→ae→Prop} (hc:E9 P i args h K) (hk:∀v h',K v h'→K' v h'):E9 P i args h K':=
 let ⟨v,h',a,b⟩:=hc;⟨v,h',a,hk v h' b⟩
def pP (P:Program) (f:FuncId):Bool:=
 match P.funcs[f]? with
 | some fn=>fn.name != "runtime.NumGoroutine" &&fn.body.isSome
 | none=>false
def fS (o:Option Value) (K:Value→Prop):Prop:=
 match o with
 | some v=>K v
 | none=>False
def nY (o:Option (Value×ae)) (K:Value→ae→Prop):Prop:=
 match o with
 | some (v,h')=>K v h'
 | none=>False
def uf (P:Program) (x:Value) (args:List Value) (h:ae) (K:Value→ae→Prop):Prop:=
 match x with
 | .func (.func g) first cap=>pP P g=true∧sA P g (first.toList++args++cap.toList) h K
 | .func (.yield i) first cap=>(first=#[]∧cap=#[])∧E9 P i args h K
 | _=>False
def uW (P:Program) (g:Value) (ls:List Nat) (vs:List Value) (c:Du) (h:ae) (K:ae→Prop):Prop:=
 match g with
 | .func (.func F) first cap=>pP P F=true∧sA P F (first.toList++[.func (.yield h.length) #[] #[]]++cap.toList) (h++[.loop c ls vs]) fun _ h'=>
   (∃c' ls' jS,h'[h.length]?=some (.loop c' ls' jS))∧K (h'.set h.length .dead)
 | _=>False
def dm (P:Program) (o:iz) (f:Nat→Value) (h:ae) (K:Value→ae→Prop):Prop:=
 match o with
 | .p o=>fS (jK o (ev f)) fun v=>K v h
 | .l o=>fS (fR o (ev f) h) fun v=>K v h
 | .e o=>nY (gw o (ev f) h) K
 | .call g args=>sA P g (args.map (ev f)) h K
 | .lG x args=>uf P (ev f x) (args.map (ev f)) h K
def ra (v:Value) (b:Bool):Bool:=
 match v with
 | .bool c=>c==b
 | _=>false
def wE:Value→Bool
 | .complex _ _ _=>true
 | _=>false
def jh (g:Option (Nat×Bool)) (f:Nat→Value):Bool:=
 match g with
 | none=>true
 | some (s,b)=>ra (f s) b
def kP (v:Value) (b:Bool) (A B:Prop):Prop:=
 match v with
 | .bool c=>if (c==b)=true then A else B
 | .complex _ _ _=>False
 | _=>B
def dO (f:Nat→Value) (d:Option Nat) (v:Value):Nat→Value:=
 match d with
 | some d=>yy f d v
 | none=>f
def tF (P:Program):List jo→((Nat→Value)→ae→Prop)→(Nat→Value)→ae→Prop
 | [],K,f,h=>K f h
 | o::os,K,f,h=>
  match o.guard with
  | none=>dm P o.op f h fun v h'=>tF P os K (dO f o.dst v) h'
  | some (s,b)=>kP (f s) b (dm P o.op f h fun v h'=>tF P os K (dO f o.dst v) h') (tF P os K (dO f o.dst undef) h)
def xK (P:Program):List jA→((Nat→Value)→ae→Prop)→(Nat→Value)→ae→Prop
 | [],K,f,h=>K f h
 | o::os,K,f,h=>dm P o.op f h fun v h'=>xK P os K (dO f o.dst v) h'
def C0:List jA→(Nat→Value)→(Nat→Value)
 | [],f=>f
 | o::os,f=>C0 os (dO f o.dst undef)
def tM (P:Program) (g:Option (Nat×Bool)) (l:List jA) (K:(Nat→Value)→ae→Prop) (f:Nat→Value) (h:ae):Prop:=
 match g with
 | none=>xK P l K f h
 | some (s,b)=>kP (f s) b (xK P l K f h) (K (C0 l f) h)
def iz.dN:iz→Bool
 | .p _=>false
 | .l _=>false
 | _=>true
abbrev fh:=List (Nat×pK×(Nat→Value)×Value)
def xz (pre:Nat) (lo:pK) (f:Nat→Value) (v:Value):List (Nat×ae)→Prop
 | []=>True
 | (e,H)::r=>if pre.testBit e=true then xz pre lo f v r else fR lo (ev f) H=some v∧xz pre lo f v r
def lR (pre:Nat) (H:ae):fh→Prop
 | []=>True
 | (j,lo,f,v)::r=>if pre.testBit j=true then lR pre H r else fR lo (ev f) H=some v∧lR pre H r
def lH (P:Program) (io:iz) (pre j:Nat) (aN:List (Nat×ae)) (aI:fh) (f:Nat→Value) (h:ae) (next:List (Nat×ae)→fh→Value→ae→Prop):Prop:=
 match io with
 | .p po=>fS (jK po (ev f)) fun v=>next aN aI v h
 | .l lo=>fS (fR lo (ev f) h) fun v=>xz pre lo f v aN∧next aN (aI++[(j,lo,f,v)]) v h
 | .e (.fl a)=>nY (gw (.fl a) (ev f) h) fun v h'=>fS (eC h' v) fun u=>lR pre h' aI∧next (aN++[(j,h)]) (aI++[(j,.obj (.const v),f,u)]) v h'
 | .e eo=>nY (gw eo (ev f) h) fun v h'=>lR pre h' aI∧next (aN++[(j,h)]) aI v h'
 | .call g args=>sA P g (args.map (ev f)) h fun v h'=>lR pre h' aI∧next (aN++[(j,h)]) aI v h'
 | .lG x args=>uf P (ev f x) (args.map (ev f)) h fun v h'=>lR pre h' aI∧next (aN++[(j,h)]) aI v h'
def xF (io:iz) (pre j:Nat) (aN:List (Nat×ae)) (aI:fh) (h:ae) (next:List (Nat×ae)→fh→Value→ae→Prop):Prop:=
 match io.dN with
 | false=>next aN aI undef h
 | true=>lR pre h aI∧next (aN++[(j,h)]) aI undef h
def lL (P:Program):List cY→Nat→List (Nat×ae)→fh→((Nat→Value)→ae→Prop)→(Nat→Value)→ae→Prop
 | [],_,_,_,K,f,h=>K f h
 | o::os,j,aN,aI,K,f,h=>
  match o.op.guard with
  | none=>lH P o.op.op o.pre j aN aI f h fun aN aI v h'=>lL P os (j+1) aN aI K (dO f o.op.dst v) h'
  | some (s,b)=>
   kP (f s) b (lH P o.op.op o.pre j aN aI f h fun aN aI v h'=>lL P os (j+1) aN aI K (dO f o.op.dst v) h')
    (xF o.op.op o.pre j aN aI h fun aN aI v h'=>lL P os (j+1) aN aI K (dO f o.op.dst v) h')
def pj (P:Program):List ko→Nat→List (Nat×ae)→fh→(List (Nat×ae)→fh→(Nat→Value)→ae→Prop)→(Nat→Value)→ae→Prop
 | [],_,aN,aI,K,f,h=>K aN aI f h
 | o::os,j,aN,aI,K,f,h=>lH P o.op o.pre j aN aI f h fun aN aI v h'=>pj P os (j+1) aN aI K (dO f o.dst v) h'
def vV:List ko→Nat→List (Nat×ae)→fh→(List (Nat×ae)→fh→(Nat→Value)→ae→Prop)→(Nat→Value)→ae→Prop
 | [],_,aN,aI,K,f,h=>K aN aI f h
 | o::os,j,aN,aI,K,f,h=>xF o.op o.pre j aN aI h fun aN aI v h'=>vV os (j+1) aN aI K (dO f o.dst v) h'
def oF (P:Program):List (Option (Nat×Bool)×List ko)→Nat→List (Nat×ae)→fh→((Nat→Value)→ae→Prop)→(Nat→Value)→ae→Prop
 | [],_,_,_,K,f,h=>K f h
 | (none,l)::gs,j,aN,aI,K,f,h=>pj P l j aN aI (fun aN aI f h=>oF P gs (j+l.length) aN aI K f h) f h
 | (some (s,b),l)::gs,j,aN,aI,K,f,h=>
  kP (f s) b (pj P l j aN aI (fun aN aI f h=>oF P gs (j+l.length) aN aI K f h) f h)
   (vV l j aN aI (fun aN aI f h=>oF P gs (j+l.length) aN aI K f h) f h)
def aG (next:(Nat→Value)→ae→Prop) (K:Exit→(Nat→Value)→ae→Prop):Exit→(Nat→Value)→ae→Prop
 | .normal,f,h=>next f h
 | e,f,h=>K e f h
def bO (id:Nat) (K:Exit→(Nat→Value)→ae→Prop):Exit→(Nat→Value)→ae→Prop
 | .exit i,f,h=>if i=id then K .normal f h else K (.exit i) f h
 | e,f,h=>K e f h
def pS (c:Value) (a b:Prop):Prop:=
 match c with
 | .bool t=>if t=true then a else b
 | _=>False
def BH (Q:(Nat→Value)→ae→Prop) (ls:List Nat) (vs:List Value) (h:ae):Prop:=Q (kF ls vs) h
def AE (init:List Value) (h:ae) (Q:(List Value→ae→Prop)→List Value→ae→Prop):Prop:=
 ∃(J:List Value→ae→Prop) (μ:List Value→ae→Nat),J init h∧∀(xs:List Value) (hx:ae),J xs hx→Q (fun ys hy=>J ys hy∧μ ys hy<μ xs hx) xs hx
abbrev ar:=Exit→(Nat→Value)→ae→Prop
noncomputable def jv (P:Program) (c:fx):ar→(Nat→Value)→ae→Prop:=
 fx.rec (motive:=fun _=>ar→(Nat→Value)→ae→Prop)
  (fun K f h=>K .normal f h)
  (fun l K f h=>oF P l 0 [] [] (K .normal) f h)
  (fun g l K f h=>tM P g l (K .normal) f h)
  (fun _ _ ia ib K f h=>ia (aG (ib K) K) f h)
  (fun ls _ ic K f h=>BH (ic K) ls (ls.map f) h)
  (fun c _ _ ia ib K f h=>pS (ev f c) (ia K f h) (ib K f h))
  (fun id _ ic K f h=>ic (bO id K) f h)
  (fun ks ls _ ic K f h=>AE (ls.map f) h fun L xs hx=>ic (aG (fun f' aW=>ks.map f'=ks.map f∧L (ls.map f') aW) K) (kF (ks++ls) (ks.map f++xs)) hx)
  (fun id K f h=>K (.exit id) f h)
  (fun K f h=>K .ret f h)
  (fun g ls c K f h=>uW P (ev f g) ls (ls.map f) c h (K .normal f)) c
theorem af1 {P:Program} {c:Operand} {a b:fx} {K:ar} {f:Nat→Value} {h:ae}:jv P (.cond c a b) K f h=pS (ev f c) (jv P a K f h) (jv P b K f h):=rfl
def vM (P:Program) (op:Op):Option iz:=
 match jq P op with
 | some o=>some (.p o)
 | none=>match vK P op with
  | some o=>some (.l o)
  | none=>match iU P op with
   | some o=>some (.e o)
   | none=>match op with
    | .call { callee:=.value (.func f),args,.. }=>if pP P f then some (.call f args.toList) else none
    | .call { callee:=.value x,args,.. }=>some (.lG x args.toList)
    | _=>none
def ID (N:Nat) (ops:Array Oper):Option (Nat×Bool)→Option (Option (Nat×Bool))
 | none=>some none
 | some (j,b)=>match (ops[j]?).bind (·.dst) with
  | some s=>if s<N then some (some (s,b)) else none
  | none=>none
def yX (P:Program) (N:Nat) (ops:Array Oper) (o:Oper):Option jo:=
 if o.op.operands.all jM&&o.dst.all (·<N) then
  match vM P o.op,ID N ops o.guard with
  | some op,some g=>some ⟨o.dst,op,g⟩
  | _,_=>none
 else none
def lT (P:Program) (N:Nat) (ops:Array Oper):List Oper→Option (List jo)
 | []=>some []
 | o::os=>match yX P N ops o,lT P N ops os with
  | some x,some xs=>some (x::xs)
  | _,_=>none
def qC.iI:qC→List Operand
 | .mv x | .un _ x | .conv _ x | .Wh x | .Tn x | .To x | .QW _ x | .Q0 _ _ _ x | .TJ x | .ext x _=>[x]
 | .pick c a b=>[c,a,b]
 | .bin _ x y | .I1 _ x y | .I2 _ x y | .S3 x y | .SZ _ _ _ x y | .Pg _ x y | .Pf _ _ x y=>[x,y]
 | .Ke _=>[]
 | .Fo _ xs=>xs
 | .LG x lo hi=>x::(lo.toList++hi.toList)
 | .LH _ _ x lo hi=>x::(lo.toList++hi.toList)
 | .fn _ first captured=>first++captured
 | .build _ parts=>parts.map (·.2.2)
 | .S0 f x c=>[.func f,x,c]
def pK.iI:pK→List Operand
 | .load _ _ a=>[a]
 | .yS x=>[x]
 | .lookup _ _ m k=>[m,k]
 | .Kh _ _ _ m k=>[m,k]
 | .Kg _ _ _ m k=>[m,k]
 | .entry it=>[it]
 | .obj x=>[x]
def ng.iI:ng→List Operand
 | .alloc _ _=>[]
 | .nX _ _ _ parts=>parts.map (·.2.2)
 | .make _ _ _ l c=>[l,c]
 | .pG _=>[]
def pJ.iI:pJ→List Operand
 | .fl a=>a.iI
 | .store _ a v=>[a,v]
 | .box _ x=>[x]
 | .alloc _ _=>[]
 | .nX _ _ _ parts=>parts.map (·.2.2)
 | .make _ _ _ l c=>[l,c]
 | .app _ _ _ s x=>[s,x]
 | .mkMap=>[]
 | .Ko _=>[]
 | .die=>[]
 | .pG _=>[]
 | .TD _ m k v=>[m,k,v]
 | .D7 _ m k=>[m,k]
 | .VO x=>[x]
 | .next it=>[it]
 | .TE _ m k v=>[m,k,v]
 | .TC m k v=>[m,k,v]
 | .copy d s=>[d,s]
def iz.iI:iz→List Operand
 | .p o=>o.iI
 | .l o=>o.iI
 | .e o=>o.iI
 | .call _ args=>args
 | .lG x args=>x::args
def tmpsOf:List Operand→List Nat
 | []=>[]
 | .tmp t::xs=>t::tmpsOf xs
 | _::xs=>tmpsOf xs
def jo.reads (o:jo):List Nat:=(match o.guard with | some (s,_)=>[s] | none=>[])++tmpsOf o.op.iI
def wP (qu:List Nat):List Nat→Nat
 | []=>0
 | e::es=>(2^e ||| qu.getD e 0) ||| wP qu es
def jP:List (List Nat)→List Nat→List Nat
 | [],acc=>acc
 | es::r,acc=>jP r (acc++[wP acc es])
def u7 (o:cY) (t:Nat):Bool:=o.op.dst==some t||o.op.reads.contains t
def CM (oj:cY) (j:Nat) (oi:cY) (i:Nat):Bool:=
 (i==j||(match oi.op.dst with
  | none=>true
  | some t=> !u7 oj t||(if i<j then oj.pre.testBit i else oi.pre.testBit j)))&&
 (!(decide (i<j)&&oi.op.op.dN&&oj.op.op.dN)||oj.pre.testBit i)
def K8 (l:List cY):Bool:=l.zipIdx.all fun (oj,j)=>l.zipIdx.all fun (oi,i)=>CM oj j oi i
def fN (o:Oper):List Nat:=o.after.toList.filterMap fun e=>if Region.binds .any e then some e.on else none
def yT (ops:List Oper):Nat→Bool
 | i=>match ops with
  | []=>true
  | o::os=>(fN o).all (·<i)&&yT os (i+1)
def oW:List jo→List Nat→List cY
 | o::os,p::ps=>⟨o,p⟩::oW os ps
 | _,_=>[]
def Qm (P:Program) (N:Nat) (ops:Array Oper):Option (List cY):=
 match lT P N ops ops.toList with
 | some ios=>
  if P.follows .mixedOrders&&yT ops.toList 0&&K8 (oW ios (jP (ops.toList.map fN) [])) then some (oW ios (jP (ops.toList.map fN) [])) else none
 | none=>none
def je (o:cY):Bool:=match o.op.op with | .e (.fl _)=>true | _=>false
def Q2 (l:List cY):List Nat:=
 l.zipIdx.filterMap fun (oi,i)=>
  if (match oi.op.op with | .e eo=>eo.L0.isSome | _=>false)&&oi.op.guard.isNone&&(l.zipIdx.any fun (oj,j)=>j != i&&oj.op.op.dN&& !(oi.pre.testBit j)&& !(oj.pre.testBit i)) then some i else none
def Ej (o:jo):jo:=
 match o.op,o.guard with
 | .e eo,none=>match eo.L0 with | some a=>⟨o.dst,.e (.fl a),none⟩ | none=>o
 | _,_=>o
def Kk (pre:Nat):List Nat→Nat→Nat
 | [],_=>0
 | i::is,q=>(if pre.testBit i then 2^q else 0) ||| Kk pre is (q+1)
def aAY (l:List cY) (fl:List Nat):List Nat:=
 let inD:=fun i=>fl.contains i||fl.any fun a=>((l[a]?).map fun o=>o.pre.testBit i).getD false
 (List.range l.length).filter inD++(List.range l.length).filter fun i=> !inD i
def agd (l:List cY) (fl perm:List Nat):List cY:=
 perm.filterMap fun i=>(l[i]?).map fun o=>⟨if fl.contains i then Ej o.op else o.op,Kk o.pre perm 0⟩
def IL:List Nat→Bool
 | []=>true
 | x::xs=> !(xs.contains x)&&IL xs
def CN (oj:cY) (j:Nat) (oi:cY) (i:Nat):Bool:=
 (i==j||(match oi.op.dst with
  | none=>true
  | some t=> !u7 oj t||(if i<j then oj.pre.testBit i else oi.pre.testBit j)))&&
 (!(decide (i<j)&&oi.op.op.dN&&oj.op.op.dN&& !(je oi)&& !(je oj))||oj.pre.testBit i)
def uE (l:List cY):Nat:=l.length-((l.reverse.takeWhile fun o=> !(je o)).length)
def okF (l:List cY) (perm:List Nat) (qu:List Nat):Bool:=
 l.length==qu.length&&perm.length==qu.length&&IL perm&&perm.all (·<qu.length)&&
 (l.zipIdx.all fun (oj,j)=>l.zipIdx.all fun (oi,i)=>CN oj j oi i)&&
 (l.zipIdx.all fun (o,q)=>if q<uE l then !(o.op.op.dN)||je o else !(je o))&&
 (l.zipIdx.all fun (o,q)=>(List.range qu.length).all fun k=>o.pre.testBit k==(qu.getD (perm.getD q 0) 0).testBit (perm.getD k 0))&&
 (l.zipIdx.all fun (o,_)=> !(je o)||o.op.guard.isNone)
def IC (P:Program) (N:Nat) (ops:Array Oper):Option (List cY×List Nat):=
 match lT P N ops ops.toList with
 | some ios=>
  let qu:=jP (ops.toList.map fN) []
  let l:=oW ios qu
  let fl:=Q2 l
  let perm:=aAY l fl
  let l':=agd l fl perm
  if P.follows .mixedOrders&&yT ops.toList 0&&okF l' perm qu then some (l',perm) else none
 | none=>none
def Qn (P:Program) (N:Nat) (ops:Array Oper):Option (List cY):=
 match Qm P N ops with
 | some l=>some l
 | none=>(IC P N ops).map Prod.fst
def uz:List jo→List (Option (Nat×Bool)×List jA)
 | []=>[]
 | o::os=>match uz os with
  | (g,l)::gs=>if o.guard=g then (g,⟨o.dst,o.op⟩::l)::gs else (o.guard,[⟨o.dst,o.op⟩])::(g,l)::gs
  | []=>[(o.guard,[⟨o.dst,o.op⟩])]
def leaves (g:Option (Nat×Bool)) (d:Option Nat):Bool:=
 match g with
 | some (s,_)=>d != some s
 | none=>true
def xE:List cY→List (Option (Nat×Bool)×List ko)
 | []=>[]
 | o::os=>match xE os with
  | (g,l)::gs=>if o.op.guard=g then (g,⟨o.op.dst,o.op.op,o.pre⟩::l)::gs else (o.op.guard,[⟨o.op.dst,o.op.op,o.pre⟩])::(g,l)::gs
  | []=>[(o.op.guard,[⟨o.op.dst,o.op.op,o.pre⟩])]
abbrev Hints:=List (List Nat)
def xD (ls:List Nat) (c:fx):fx:=
 match ls with
 | []=>c
 | l::ls=>.cut (l::ls) c
def rz:List (Option (Nat×Bool)×List jA)→Hints→fx×Hints
 | [],hs=>(.skip,hs)
 | (g,l)::gs,hs=>
  match gs,hs with
  | [],hs=>(.ops g l,hs)
  | gs,h::hs=>let r:=rz gs hs;(.seq (.ops g l) (xD h r.1),r.2)
  | gs,[]=>let r:=rz gs [];(.seq (.ops g l) r.1,r.2)
def fM (P:Program) (N:Nat):Code→Hints→Option (fx×Hints)
 | .skip,hs=>some (.skip,hs)
 | .region _ ops false,hs=>
  match lT P N ops ops.toList with
  | some l=>if l.all fun o=>leaves o.guard o.dst then some (rz (uz l) hs) else none
  | none=>some (.ops none [⟨none,.e .die⟩],hs)
 | .region _ ops true,hs=>
  match Qn P N ops with
  | some l=>if l.all fun o=>leaves o.op.guard o.op.dst then some (.IM (xE l),hs) else none
  | none=>none
 | .seq a b,hs=>
  match fM P N a hs with
  | some (x,h::hs)=>match fM P N b hs with
   | some (y,hs)=>some (.seq x (xD h y),hs)
   | none=>none
  | some (x,[])=>match fM P N b [] with
   | some (y,hs)=>some (.seq x y,hs)
   | none=>none
  | none=>none
 | .cond c a b,hs=>if jM c then match fM P N a hs with
  | some (x,hs)=>match fM P N b hs with
   | some (y,hs)=>some (.cond c x y,hs)
   | none=>none
  | none=>none
  else none
 | .block id c,hs=>match fM P N c hs with
  | some (x,hs)=>some (.block id x,hs)
  | none=>none
 | .loop c,hs=>
  match hs with
  | ks::ls::hs=>match fM P N c hs with
   | some (x,hs)=>some (.loop ks ls x,hs)
   | none=>none
  | _=>none
 | .exit id,hs=>some (.exit id,hs)
 | .ret,hs=>some (.ret,hs)
 | .rangeFunc g ps ky body,hs=>
  match hs with
  | ls::hs=>if jM g&&ps.all (·<N) then some (.range g ls ⟨N,ps,ky,body⟩,hs) else none
  | []=>none
 | _,_=>none
def iO:Code→Bool
 | .seq a b=>iO a&&iO b
 | .cond _ a b=>iO a&&iO b
 | .block _ c=>iO c
 | .loop c=>iO c
 | .rangeFunc .. =>false
 | _=>true
section
variable {P : Program} {N : Nat}
def yI (P:Program) (N B:Nat) (ρ:aK) (h:ae) (w:World) (e:Exit) (f':Nat→Value) (h':ae):Exit→Act→World→Prop:=
 fun e' a' w'=>e'=e∧∃av,eJ P N B av f' h' a' w'∧Tr ρ h w av h' w'
def gZ (P:Program) (N:Nat) (out:Bool) (c:Code) (f:Nat→Value) (h:ae) (e:Exit) (f':Nat→Value) (h':ae):Prop:=
 ∀R,(out=true→R=none)→∀B ρ a w,eJ P N B ρ f h a w→c.wpIn (FR R) 0 P (yI P N B ρ h w e f' h') a w
def GY (P:Program) (N:Nat) (o:Oper) (f:Nat→Value) (h:ae) (v:Value) (h':ae):Prop:=
 ∀R B ρ a w,eJ P N B ρ f h a w→∀(next:Act→World→Prop) (Q:Exit→Act→World→Prop),
  (∀av v' w',ax av v v'→a9 P av h' w'→Tr ρ h w av h' w'→next (a.put o.dst v') w')→o.wpIn (FR R) 0 P a w next Q
theorem LA {o:Oper} (hn:∀c,o.op≠ .defer c) (R:Option Nat) (g:Operand→Value):o.semAt R g=execOp g o:=by
 cases R with
 | none=>rfl
 | some l=>exact Oper.semAt_some l g o hn
theorem Mf {R:Option Nat} {o:Oper} {a:Act} {w w':World} {next:Act→World→Prop} {Q:Exit→Act→World→Prop} {v:Value} (hn:∀c,o.op≠ .defer c)
  (he:(execOp a.eval o).run P w=.ok (.value v) w') (hk:next (a.put o.dst v) w'):o.wpIn (FR R) 0 P a w next Q:=by
 refine ⟨fun _ _=>trivial,?_⟩
 rw [LA hn,he,Oper.uponIn_value]
 exact hk
theorem aGd {R:Option Nat} {o:Oper} {a:Act} {w w':World} {next:Act→World→Prop} {Q:Exit→Act→World→Prop} (hn:∀c,o.op≠ .defer c)
  (he:(execOp a.eval o).run P w=.ok .skip w') (hk:next (a.put o.dst undef) w'):o.wpIn (FR R) 0 P a w next Q:=by
 refine ⟨fun _ _=>trivial,?_⟩
 rw [LA hn,he,Oper.uponIn_skip]
 exact hk
theorem acY {f:FuncId} {args:Array Value} {w:World} {K:Ending→World→Prop} (h:Calls P f args w K) (R:Option Nat) (n:Nat):CallsIn (FR R) n P f args w K:=by
 cases R with
 | none=>exact callsIn_wide.2 h
 | some l=>exact (callsIn_wide (n:=n)).2 h
theorem aEC {l:Nat} {f:FuncId} {tmps:Array Value} {ky body:Code} {w:World} {K:Ending→World→Prop} (h:RoundIn Fence.wide 0 P l f tmps ky body w K) (R:Option Nat):
  RoundIn (FR R) 0 P l f tmps ky body w K:=h
theorem Qd {f:FuncId} (h:pP P f=true) (args:Array Value) (w:World):(callFunc f args).run P w=.ok (.enter f args) w:=by
 unfold pP at h
 split at h
 ·rename_i fn hf
  simp only [and_eq_true,bne_iff_ne] at h
  obtain ⟨h1,h2⟩:=h
  have h3:fn.body≠none:=by
   intro hb
   simp [hb] at h2
  simp [callFunc,hf,h1,h3]
 ·cases h
theorem ai0 {o:Oper} {f:Nat→Value} {h:ae} {g:FuncId} {args:List Value} {v:Value} {h':ae} (hc:xk P g args h v h')
  (hd:∀c,o.op≠ .defer c)
  (he:∀B ρ a w,eJ P N B ρ f h a w→∃args':Array Value,bG ρ args args'.toList∧(execOp a.eval o).run P w=.ok (.enter g args') w):GY P N o f h v h':=by
 intro r B ρ a w R next Q hn
 obtain ⟨args',hv,hr⟩:=he B ρ a w R
 refine ⟨fun _ _=>trivial,?_⟩
 rw [LA hd,hr,Oper.uponIn_enter]
 refine ⟨fun h=>(by cases h),?_⟩
 refine (acY (hc ρ args' w hv R.heap) r _).mono ?_
 rintro e w' ⟨v',av,rfl,h1,h2,h3⟩
 exact hn av v' w' h1 h2 h3
theorem aAG {o:Oper} {f:Nat→Value} {h:ae} {i:Nat} {args:List Value} {v:Value} {h':ae} (hc:MN P i args h v h')
  (hd:∀c,o.op≠ .defer c)
  (he:∀B ρ a w,eJ P N B ρ f h a w→∃(r:RI) (args':Array Value),ρ i=some r∧bG ρ args args'.toList∧(execOp a.eval o).run P w=(Instr.yield r.bw args').run P w):GY P N o f h v h':=by
 intro R' B ρ a w R next Q hn
 obtain ⟨r,args',hi,hv,hr⟩:=he B ρ a w R
 obtain ⟨fn,tmps,ky,body,e1,e2⟩:=hc ρ r args' w hi hv R.heap
 refine ⟨fun _ _=>trivial,?_⟩
 rw [LA hd,hr,e1,Oper.uponIn_round]
 refine ⟨fun h=>(by cases h),?_⟩
 refine (aEC e2 R').mono ?_
 rintro e w' ⟨v',av,rfl,h1,h2,h3⟩
 exact hn av v' w' h1 h2 h3
theorem ac2 {op:Op} {io:iz} (h:vM P op=some io):∀c,op≠ .defer c:=by
 rintro c rfl
 simp [vM,jq,vK,iU] at h
theorem Qq {op:Op} {io:iz} (h:vM P op=some io):(∃o,io=.p o∧jq P op=some o)∨(∃o,io=.l o∧vK P op=some o)∨(∃o,io=.e o∧iU P op=some o)∨
  (∃f args at_,op=.call ⟨.value (.func f),args,at_⟩∧pP P f=true∧io=.call f args.toList)∨(∃x args at_,op=.call ⟨.value x,args,at_⟩∧io=.lG x args.toList):=by
 unfold vM at h
 split at h
 ·rename_i o ho;simp at h;exact .inl ⟨o,h.symm,ho⟩
 ·split at h
  ·rename_i o ho;simp at h;exact .inr (.inl ⟨o,h.symm,ho⟩)
  ·split at h
   ·rename_i o ho;simp at h;exact .inr (.inr (.inl ⟨o,h.symm,ho⟩))
   ·split at h
    ·split at h
     ·rename_i hc;simp at h;exact .inr (.inr (.inr (.inl ⟨_,_,_,rfl,hc,h.symm⟩)))
     ·cases h
    ·simp at h;exact .inr (.inr (.inr (.inr ⟨_,_,_,rfl,h.symm⟩)))
    ·cases h
theorem AP {o:Oper} {io:iz} {f:Nat→Value} {h:ae} {K:Value→ae→Prop} (hc:vM P o.op=some io) (aE:o.op.operands.all jM=true) (hs:dm P io f h K):
  ∃v h',GY P N o f h v h'∧K v h':=by
 have qh:=ac2 hc
 rcases Qq hc with ⟨po,rfl,hp⟩ | ⟨lo,rfl,hl⟩ | ⟨eo,rfl,he⟩ | ⟨g,args,at_,ho,nt,rfl⟩ | ⟨x,args,at_,ho,rfl⟩
 ·simp only [dm,fS] at hs
  split at hs
  ·rename_i v hv
   refine ⟨v,h,?_,hs⟩
   intro _ B ρ a w R next Q hn
   obtain ⟨v',h1,h2⟩:=aA9 w hp aE R.heap.aY (fun x hx=>R.ev hx) hv
   exact Mf qh h1 (hn ρ v' w h2 R.heap (Tr.refl R.heap))
  ·exact hs.elim
 ·simp only [dm,fS] at hs
  split at hs
  ·rename_i v hv
   refine ⟨v,h,?_,hs⟩
   intro _ B ρ a w R next Q hn
   obtain ⟨v',h1,h2⟩:=az6 hl aE R.heap (fun x hx=>R.ev hx) hv
   exact Mf qh h1 (hn ρ v' w h2 R.heap (Tr.refl R.heap))
  ·exact hs.elim
 ·simp only [dm,nY] at hs
  split at hs
  ·rename_i v h' hv
   refine ⟨v,h',?_,hs⟩
   intro _ B ρ a w R next Q hn
   obtain ⟨nx,w',av,v',e1,e2,e3,e4,e5⟩:=awj he aE R.heap (fun x hx=>R.ev hx) hv
   rcases e2 with rfl | ⟨rfl,rfl⟩
   ·exact Mf qh e1 (hn av v' w' e3 e4 e5)
   ·exact aGd qh e1 (hn av undef w' e3 e4 e5)
  ·exact hs.elim
 ·obtain ⟨v,h',rW,hk⟩:=hs
  refine ⟨v,h',ai0 rW qh ?_,hk⟩
  intro B ρ a w R
  rw [ho] at aE
  simp [Op.operands,Call.operands] at aE
  refine ⟨args.map a.eval,by simpa using bG.AH (fun x hx=>R.ev hx) (xs:=args.toList) (by simpa using aE.2),?_⟩
  simp [execOp,ho,resolve,Act.eval,Deferred.ofValue,invoke,Qd nt]
 ·simp only [dm,uf] at hs
  rw [ho] at aE
  simp [Op.operands,Call.operands] at aE
  split at hs
  ·rename_i g first cap hx
   obtain ⟨nt,v,h',rW,hk⟩:=hs
   refine ⟨v,h',ai0 rW qh ?_,hk⟩
   intro B ρ a w R
   have hr:=R.ev (x:=x) aE.1
   rw [hx] at hr
   generalize hy:a.eval x=y at hr
   cases hr with
   | func _ s1 s2 r1 r2=>
    rename_i QY Ix
    refine ⟨QY++args.map a.eval++Ix,?_,?_⟩
    ·have q1:=bG.tR s1 r1
     have q2:=bG.AH (fun x hx=>R.ev hx) (xs:=args.toList) (by simpa using aE.2)
     have q3:=bG.tR s2 r2
     simpa using (q1.append q2).append q3
    ·simp [execOp,ho,resolve,hy,Deferred.ofValue,invoke,Qd nt]
  ·rename_i i first cap hx
   obtain ⟨⟨rfl,rfl⟩,v,h',rW,hk⟩:=hs
   refine ⟨v,h',aAG rW qh ?_,hk⟩
   intro B ρ a w R
   have hr:=R.ev (x:=x) aE.1
   rw [hx] at hr
   generalize hy:a.eval x=y at hr
   cases hr with
   | yield hi=>
    rename_i r
    refine ⟨r,args.map a.eval,hi,by simpa using bG.AH (fun x hx=>R.ev hx) (xs:=args.toList) (by simpa using aE.2),?_⟩
    simp [execOp,ho,resolve,hy,Deferred.ofValue,invoke]
  ·exact hs.elim
end
end
end Go.Sim
