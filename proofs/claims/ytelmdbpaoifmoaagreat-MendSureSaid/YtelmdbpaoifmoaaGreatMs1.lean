/-
  Part 1 of the texts behind a statement of this seat: Sim1, Sim2, Sim3, Sim4, Sim5, Sim6, Sim7, Sim8, Sim7d, Sim9, Sim9g, Sim10, Sim11, Sim12, Sim13, Sim14.
-/
import Derived.WalkKit
import Derived.Laws.Append
import Derived.Laws.AppendOwn
import Derived.Laws.MakeOwn
import Derived.Laws.BytesString
import Derived.RangeFuncRecord
import Derived.Lib.Bytealg
import Derived.WalkSpells
import Derived.WideKeyArr
import Derived.MapKept
import Derived.Laws.CopyRow
import Derived.Laws.IdiomCopy
open Array (ext' getElem?_eq_getElem getElem?_toList)
open Bool (and_eq_true)
open List (all_eq_true getElem?_append_left getElem?_set_ne mem_of_getElem?)
open Nat (add_mul le_refl le_trans zero_add)
open Option (bind_eq_some_iff map_eq_some_iff)
namespace Go.Sim
section
theorem aT {p : Prop} [Decidable p] (h : ¬p) : decide p = false := decide_eq_false h
theorem aW {p : Prop} [Decidable p] (h : p) : decide p = true := decide_eq_true h
theorem bP {n m : Nat} (h : Nat.ble n m = true) : n ≤ m := Nat.le_of_ble_eq_true h
theorem bL {α : Type} {l : List α} {i : Nat} {a : α} (h : l[i]? = some a) : ∃ h : i < l.length, l[i] = a := List.getElem?_eq_some_iff.1 h
structure RI where
 bu:Nat
 sh:Nat
 elem:TypeId
 aV:Nat
 size:Nat
abbrev aI:=Nat→Option RI
structure Ds where
 N:Nat
 ps:Array Tmp
 kn:Code
 body:Code
inductive fM where
 | int (k:IntKind)
 | str
 | ints (n:Nat) (k:IntKind)
 deriving DecidableEq
def kB (k:IntKind):Value→Bool
 | .int k' _=>decide (k'=k)
 | _=>false
def EY (k:IntKind):Value→Bool
 | .int _ n=>decide (k.min≤n)&&decide (n≤k.max)
 | _=>false
def fe:fM→Value→Bool
 | .int k,v=>kB k v
 | .str,.string _=>true
 | .ints n k,.agg cs=>decide (cs.size=n)&&cs.toList.all fun v=>kB k v&&EY k v
 | _,_=>false
inductive ak where
 | ro (e:TypeId) (xs:List Value)
 | arr (e:TypeId) (xs:List Value)
 | smap (es:List (ByteArray×Value))
 | eP (kd:IntKind) (es:List (Int×Value))
 | df (g:fM) (clock:Nat) (es:List (Nat×Value×Value))
 | iter (m kE:Nat) (seen:List Nat) (last:Nat)
 | loop (c:Ds) (ls:List Nat) (vs:List Value)
 | dead
abbrev ae:=List ak
abbrev Zi:Value:=.complex .f32 0 0
def kD:List Nat→List Value→Nat→Value
 | l::ls,v::vs,j=>match Nat.beq j l with | true=>v | false=>kD ls vs j
 | _,_,_=>Zi
theorem azT (l:Nat) (ls:List Nat) (v:Value) (vs:List Value) (j:Nat):kD (l::ls) (v::vs) j=if j=l then v else kD ls vs j:=by
 show (match Nat.beq j l with | true=>v | false=>kD ls vs j)=_
 split
 ·rename_i h;rw [if_pos (Nat.eq_of_beq_eq_true h)]
 ·rename_i h;rw [if_neg (Nat.ne_of_beq_eq_false h)]
def gN:Value→Bool
 | .agg _ | .tuple _ | .complex _ _ _=>false
 | _=>true
inductive ay (ρ:aI):Value→Value→Prop
 | bool (b:Bool):ay ρ (.bool b) (.bool b)
 | int (k:IntKind) (n:Int):ay ρ (.int k n) (.int k n)
 | string (s:ByteArray):ay ρ (.string s) (.string s)
 | ve:ay ρ (.pointer none) (.pointer none)
 | q7:ay ρ (.slice none 0 0) (.slice none 0 0)
 | u9:ay ρ (.map none) (.map none)
 | nilFunc:ay ρ .nilFunc .nilFunc
 | nilIface:ay ρ .nilIface .nilIface
 | ptr {i o:Nat} {r:RI}:ρ i=some r→ay ρ (.pointer (some ⟨i,o,none⟩)) (.pointer (some ⟨r.bu,r.sh+o,none⟩))
 | slice {i o n o' c':Nat} {r:RI}:ρ i=some r→(o'=r.sh+o∨(n=0∧0<o∧c'=0))→n≤c'→c'≤maxLen→o'+c'*r.aV≤r.size→
   ay ρ (.slice (some ⟨i,o,some r.elem⟩) n n) (.slice (some ⟨r.bu,o',none⟩) n c')
 | void (a:Addr):ay ρ (.slice none 0 1) (.slice (some a) 0 0)
 | map {i:Nat} {r:RI}:ρ i=some r→ay ρ (.map (some i)) (.map (some r.bu))
 | func (f:FuncId) {xs ys ft Bf:Array Value}:xs.size=ft.size→ys.size=Bf.size→
   (∀(k:Nat) (x x':Value),xs[k]?=some x→ft[k]?=some x'→ay ρ x x')→
   (∀(k:Nat) (x x':Value),ys[k]?=some x→Bf[k]?=some x'→ay ρ x x')→ay ρ (.func (.func f) xs ys) (.func (.func f) ft Bf)
 | yield {i:Nat} {r:RI}:ρ i=some r→ay ρ (.func (.yield i) #[] #[]) (.func (.yield r.bu) #[] #[])
 | agg {xs ft:Array Value}:xs.size=ft.size→(∀x∈xs.toList,gN x=true)→(∀(k:Nat) (x x':Value),xs[k]?=some x→ft[k]?=some x'→ay ρ x x')→ay ρ (.agg xs) (.agg ft)
 | any (v:Value):ay ρ (.complex .f32 0 0) v
 | tuple {xs ft:Array Value}:xs.size=ft.size→(∀(k:Nat) (x x':Value),xs[k]?=some x→ft[k]?=some x'→ay ρ x x')→ay ρ (.tuple xs) (.tuple ft)
def aI.le (ρ av:aI):Prop:=∀i r,ρ i=some r→av i=some r
theorem aI.le.refl (ρ:aI):ρ.le ρ:=fun _ _ h=>h
theorem aI.le.trans {a b c:aI} (h:a.le b) (k:b.le c):a.le c:=fun i r e=>k i r (h i r e)
theorem ay.mono {ρ av:aI} (h:ρ.le av) {v v':Value} (hv:ay ρ v v'):ay av v v':=by
 induction hv with
 | bool b=>exact .bool b
 | int k n=>exact .int k n
 | string s=>exact .string s
 | ve=>exact .ve
 | q7=>exact .q7
 | u9=>exact .u9
 | nilFunc=>exact .nilFunc
 | nilIface=>exact .nilIface
 | ptr hi=>exact .ptr (h _ _ hi)
 | slice hi a b c d=>exact .slice (h _ _ hi) a b c d
 | void a=>exact .void a
 | map hi=>exact .map (h _ _ hi)
 | func f a b _ _ Au Cu=>exact .func f a b (fun k x x' e e'=>Au k x x' e e') (fun k x x' e e'=>Cu k x x' e e')
 | yield hi=>exact .yield (h _ _ hi)
 | agg a b _ ih=>exact .agg a b (fun k x x' e e'=>ih k x x' e e')
 | any v=>exact .any v
 | tuple a _ ih=>exact .tuple a (fun k x x' e e'=>ih k x x' e e')
theorem ay.undef (ρ:aI):ay ρ undef undef:=.tuple rfl (fun k x x' e e'=>by simp at e)
inductive bF (ρ:aI):List Value→List Value→Prop
 | nil:bF ρ [] []
 | cons {x y:Value} {xs ys:List Value}:ay ρ x y→bF ρ xs ys→bF ρ (x::xs) (y::ys)
theorem bF.mono {ρ av:aI} (h:ρ.le av) {xs ys:List Value} (hv:bF ρ xs ys):bF av xs ys:=by
 induction hv with
 | nil=>exact .nil
 | cons a _ ih=>exact .cons (a.mono h) ih
theorem bF.length {ρ:aI} {xs ys:List Value} (hv:bF ρ xs ys):xs.length=ys.length:=by
 induction hv with
 | nil=>rfl
 | cons _ _ ih=>simp [ih]
theorem bF.get {ρ:aI} {xs ys:List Value} (hv:bF ρ xs ys):∀{k:Nat} {x:Value},xs[k]?=some x→∃y,ys[k]?=some y∧ay ρ x y:=by
 induction hv with
 | nil=>intro k x h;simp at h
 | cons a _ ih=>
  intro k x h
  cases k with
  | zero=>simp at h;subst h;exact ⟨_,by simp,a⟩
  | succ k=>simp at h;obtain ⟨y,hy,hr⟩:=ih h;exact ⟨y,by simpa using hy,hr⟩
theorem bF.append {ρ:aI} {xs ys ft Bf:List Value} (h:bF ρ xs ys) (h':bF ρ ft Bf):bF ρ (xs++ft) (ys++Bf):=by
 induction h with
 | nil=>exact h'
 | cons a _ ih=>exact .cons a ih
theorem bF.Kj {ρ:aI}:∀{xs ys:List Value},xs.length=ys.length→(∀(k:Nat) (x y:Value),xs[k]?=some x→ys[k]?=some y→ay ρ x y)→bF ρ xs ys
 | [],[],_,_=>.nil
 | x::xs,y::ys,hl,h=>.cons (h 0 x y rfl rfl) (bF.Kj (by simpa using hl) fun k a b ha hb=>h (k+1) a b (by simpa using ha) (by simpa using hb))
theorem bF.take {ρ:aI} {xs ys:List Value} (h:bF ρ xs ys):∀n,bF ρ (xs.take n) (ys.take n):=by
 induction h with
 | nil=>intro n;simp;exact .nil
 | cons a _ ih=>intro n;cases n with
  | zero=>exact .nil
  | succ n=>exact .cons a (ih n)
theorem bF.drop {ρ:aI} {xs ys:List Value} (h:bF ρ xs ys):∀n,bF ρ (xs.drop n) (ys.drop n):=by
 induction h with
 | nil=>intro n;simp;exact .nil
 | cons a b ih=>intro n;cases n with
  | zero=>exact .cons a b
  | succ n=>exact ih n
theorem bF.set {ρ:aI} {xs ys:List Value} (h:bF ρ xs ys) {v v':Value} (hv:ay ρ v v'):∀n,bF ρ (xs.set n v) (ys.set n v'):=by
 induction h with
 | nil=>intro n;simp;exact .nil
 | cons a b ih=>intro n;cases n with
  | zero=>exact .cons hv b
  | succ n=>exact .cons a (ih n)
theorem bF.tU {ρ:aI} {xs ft:Array Value} (hs:xs.size=ft.size) (h:∀(k:Nat) (x x':Value),xs[k]?=some x→ft[k]?=some x'→ay ρ x x'):bF ρ xs.toList ft.toList:=
 bF.Kj (by simpa using hs) fun k x y hx hy=>h k x y (by simpa using hx) (by simpa using hy)
theorem bF.ofList {ρ:aI} {xs ft:List Value} (h:bF ρ xs ft):∀(k:Nat) (x x':Value),xs.toArray[k]?=some x→ft.toArray[k]?=some x'→ay ρ x x':=by
 intro k x x' hx bY
 obtain ⟨y,hy,hr⟩:=h.get (k:=k) (x:=x) (by simpa using hx)
 simp at bY
 rw [hy] at bY
 cases bY
 exact hr
theorem ay.Dx {ρ:aI} {xs ft:List Value} (h:bF ρ xs ft) (h1:∀x∈xs,gN x=true):ay ρ (.agg xs.toArray) (.agg ft.toArray):=.agg (by simpa using h.length) (by simpa using h1) h.ofList
theorem ay.sA {ρ:aI} {xs ft:List Value} (h:bF ρ xs ft):ay ρ (.tuple xs.toArray) (.tuple ft.toArray):=.tuple (by simpa using h.length) h.ofList
def cR (v:Value):List Value:=v.cells.toList
def fP:Value→Bool
 | .tuple _ | .complex _ _ _=>false
 | _=>true
theorem ay.cells {ρ:aI} {v v':Value} (h:ay ρ v v') (hn:fP v=true):bF ρ (cR v) (cR v'):=by
 cases h with
 | any _=>simp [fP] at hn
 | agg hs _ h=>exact bF.tU hs h
 | bool b=>exact .cons (.bool b) .nil
 | int k n=>exact .cons (.int k n) .nil
 | string s=>exact .cons (.string s) .nil
 | ve=>exact .cons .ve .nil
 | q7=>exact .cons .q7 .nil
 | u9=>exact .cons .u9 .nil
 | nilFunc=>exact .cons .nilFunc .nil
 | nilIface=>exact .cons .nilIface .nil
 | ptr hi=>exact .cons (.ptr hi) .nil
 | slice hi a b c d=>exact .cons (.slice hi a b c d) .nil
 | void a=>exact .cons (.void a) .nil
 | map hi=>exact .cons (.map hi) .nil
 | func f a b c d=>exact .cons (.func f a b c d) .nil
 | yield hi=>exact .cons (.yield hi) .nil
 | tuple a b=>simp [fP] at hn
def eW (h:ae) (i:Nat):Prop:=∃o,h[i]?=some o∧o≠ .dead
def cC (h:ae) (i:Nat):Prop:=(∃e xs,h[i]?=some (.arr e xs))∨(∃es,h[i]?=some (.smap es))∨(∃c ls vs,h[i]?=some (.loop c ls vs))∨(∃kd es,h[i]?=some (.eP kd es))∨(∃g c es,h[i]?=some (.df g c es))∨(∃m s n l,h[i]?=some (.iter m s n l))
theorem cC.live {h:ae} {i:Nat} (hm:cC h i):eW h i:=by
 rcases hm with ⟨e,xs,hm⟩ | ⟨es,hm⟩ | ⟨c,ls,vs,hm⟩ | ⟨kd,es,hm⟩ | ⟨g,c,es,hm⟩ | ⟨m,s,n,l,hm⟩
 ·exact ⟨_,hm,by simp⟩
 ·exact ⟨_,hm,by simp⟩
 ·exact ⟨_,hm,by simp⟩
 ·exact ⟨_,hm,by simp⟩
 ·exact ⟨_,hm,by simp⟩
 ·exact ⟨_,hm,by simp⟩
def fS (ρ:aI) (c:Array Value) (sh:Nat) (xs:List Value):Prop:=∀(j:Nat) (x:Value),xs[j]?=some x→gN x=true∧∃y,c[sh+j]?=some y∧ay ρ x y
theorem ay.Fp {ρ:aI} {v v':Value} (h:ay ρ v v') (hc:gN v=true):v'.oneCell'=true:=by
 cases h <;> first | rfl | simp [gN] at hc
theorem bF.Fp {ρ:aI} {xs ys:List Value} (h:bF ρ xs ys) (h1:∀x∈xs,gN x=true):∀y∈ys,y.oneCell'=true:=by
 induction h with
 | nil=>intro y hy;simp at hy
 | cons a _ ih=>
  intro y hy
  rcases List.mem_cons.1 hy with rfl | hy
  ·exact a.Fp (h1 _ (by simp))
  ·exact ih (fun x hx=>h1 x (by simp [hx])) y hy
theorem ay.Io {ρ:aI} {v v':Value} (h:ay ρ v v') (ht:fP v=true):∀x∈cR v,gN x=true:=by
 cases h with
 | agg hs h1 h=>exact h1
 | tuple _ _=>simp [fP] at ht
 | any _=>simp [fP] at ht
 | _=>intro x hx;simp [cR,Value.cells] at hx;subst hx;rfl
theorem fS.of {ρ:aI} {xs:List Value} {c:Array Value} (h:bF ρ xs c.toList) (h1:∀x∈xs,gN x=true):fS ρ c 0 xs:=by
 intro j x hj
 obtain ⟨y,hy,hr⟩:=h.get hj
 exact ⟨h1 x (mem_of_getElem? hj),y,by simpa using hy,hr⟩
def lJ (ρ:aI) (w:World) (r:RI):ak→Prop
 | .ro e xs=>r.elem=e∧∃c t fr,w.heap[r.bu]?=some (.cells c t fr)∧c.size=r.size∧fS ρ c r.sh xs
 | .arr e xs=>r.elem=e∧r.sh=0∧∃c,w.heap[r.bu]?=some (.cells c e (0,0))∧c.size=r.size∧fS ρ c 0 xs
 | .smap es=>∃aH clock,w.heap[r.bu]?=some (.map aH clock)∧aH.size=es.length∧
   ∀(j:Nat) (k:ByteArray) (v:Value),es[j]?=some (k,v)→∃en,aH[j]?=some en∧en.key=.string k∧ay ρ v en.val
 | .eP kd es=>∃aH clock,w.heap[r.bu]?=some (.map aH clock)∧aH.size=es.length∧
   ∀(j:Nat) (k:Int) (v:Value),es[j]?=some (k,v)→∃en,aH[j]?=some en∧en.key=.int kd k∧ay ρ v en.val
 | .df g clock es=>(es.map fun e=>e.2.1).Nodup∧∃aH,w.heap[r.bu]?=some (.map aH clock)∧aH.size=es.length∧
   ∀(j b:Nat) (k v:Value),es[j]?=some (b,k,v)→fe g k=true∧∃en,aH[j]?=some en∧en.key=k∧en.born=b∧ay ρ v en.val
 | .iter m kE seen last=>r.sh=0∧∃rm,ρ m=some rm∧w.heap[r.bu]?=some (.mapIter (some rm.bu) kE seen.toArray last)
 | .loop c ls vs=>∃rec,w.heap[r.bu]?=some (.loop rec)∧rec.state=.ready∧rec.pending=none∧rec.assign=c.kn∧rec.body=c.body∧rec.params=c.ps∧rec.tmps.size=c.N∧
   ∀t,ay ρ (kD ls vs t) (rec.tmps.getD t Go.undef)
 | .dead=>True
structure aX (P:Program) (ρ:aI) (h:ae) (w:World):Prop where
 obj:∀i r,ρ i=some r→∃o,h[i]?=some o∧lJ ρ w r o
 inj:∀i j r s,ρ i=some r→ρ j=some s→r.bu=s.bu→cC h i→eW h j→i=j
 aV:∀i r,ρ i=some r→r.aV=P.cellsOf r.elem
theorem aX.lt {P:Program} {ρ:aI} {h:ae} {w:World} (H:aX P ρ h w) {i:Nat} {r:RI} (hi:ρ i=some r):i<h.length:=by
 obtain ⟨o,ho,_⟩:=H.obj i r hi
 exact (bL ho).1
structure Tr (ρ:aI) (h:ae) (w:World) (av:aI) (h':ae) (w':World):Prop where
 ext:ρ.le av
 len:h.length≤h'.length
 jN:∀i r,ρ i=some r→i<h.length
 kinds:∀i,i<h.length→cC h' i→cC h i
 fresh:∀i r,av i=some r→ρ i=none→h.length≤i∧(w.heap.size≤r.bu∨∃j s,ρ j=some s∧s.bu=r.bu∧cC h j)
 iX:w.heap.size≤w'.heap.size
 iC:∀b,b<w.heap.size→(∀j s,ρ j=some s→s.bu=b→¬cC h j)→w'.heap[b]?=w.heap[b]?
 os:w'.os=w.os
 tape:w'.tape=w.tape
 output:w'.output=w.output
theorem Tr.refl {P:Program} {ρ:aI} {h:ae} {w:World} (H:aX P ρ h w):Tr ρ h w ρ h w where
 ext:=.refl _
 len:=le_refl _
 jN:=fun _ _ hi=>H.lt hi
 kinds:=fun _ _ h=>h
 fresh:=fun i r h1 h2=>by rw [h1] at h2;cases h2
 iX:=le_refl _
 iC:=fun _ _ _=>rfl
 os:=rfl
 tape:=rfl
 output:=rfl
theorem Tr.trans {nw WA anB:aI} {h₁ afh JF:ae} {oL LX ant:World} (a:Tr nw h₁ oL WA afh LX) (b:Tr WA afh LX anB JF ant):Tr nw h₁ oL anB JF ant where
 ext:=a.ext.trans b.ext
 len:=le_trans a.len b.len
 jN:=a.jN
 kinds:=fun i hi hm=>a.kinds i hi (b.kinds i (Nat.lt_of_lt_of_le hi a.len) hm)
 fresh:=by
  intro i r h3 h1
  cases h2:WA i with
  | some r2=>
   have:=b.ext i r2 h2
   rw [h3] at this
   cases this
   exact a.fresh i r h2 h1
  | none=>
   obtain ⟨hl,hb⟩:=b.fresh i r h3 h2
   refine ⟨le_trans a.len hl,?_⟩
   rcases hb with hb | ⟨j,s,hj,hs,hm⟩
   ·exact .inl (le_trans a.iX hb)
   ·cases v3:nw j with
    | some s'=>
     have:=a.ext j s' v3
     rw [hj] at this
     cases this
     exact .inr ⟨j,s,v3,hs,a.kinds j (a.jN j s v3) hm⟩
    | none=>
     obtain ⟨_,h⟩:=a.fresh j s hj v3
     rw [hs] at h
     rcases h with h | ⟨j',s',q1,q2,q3⟩
     ·exact .inl h
     ·exact .inr ⟨j',s',q1,q2,q3⟩
 iX:=le_trans a.iX b.iX
 iC:=by
  intro k hk dB
  rw [b.iC k (Nat.lt_of_lt_of_le hk a.iX) ?_,a.iC k hk dB]
  intro j s hj hs hm
  cases v3:nw j with
  | some s'=>
   have:=a.ext j s' v3
   rw [hj] at this
   cases this
   exact dB j s v3 hs (a.kinds j (a.jN j s v3) hm)
  | none=>
   obtain ⟨_,h⟩:=a.fresh j s hj v3
   rcases h with h | ⟨j',s',q1,q2,q3⟩
   ·omega
   ·exact dB j' s' q1 (by omega) q3
 os:=b.os.trans a.os
 tape:=b.tape.trans a.tape
 output:=b.output.trans a.output
theorem aX.drew {P:Program} {ρ:aI} {h:ae} {w:World} (H:aX P ρ h w) (n:Nat):aX P ρ h { w with drawn:=n }:=
 ⟨fun i r hi=>let ⟨o,ho,hr⟩:=H.obj i r hi;⟨o,ho,by cases o <;> exact hr⟩,H.inj,H.aV⟩
theorem Tr.drew {P:Program} {ρ:aI} {h:ae} {w:World} (H:aX P ρ h w) (n:Nat):Tr ρ h w ρ h { w with drawn:=n } where
 ext:=.refl _
 len:=le_refl _
 jN:=fun _ _ hi=>H.lt hi
 kinds:=fun _ _ h=>h
 fresh:=fun i r h1 h2=>by rw [h1] at h2;cases h2
 iX:=le_refl _
 iC:=fun _ _ _=>rfl
 os:=rfl
 tape:=rfl
 output:=rfl
def mark (D:Nat):Deferred:={ target:=.collected D,args:=#[] }
def marks (B:Nat):List Deferred→World→Prop
 | [],w=>B≤w.heap.size
 | d::ds,w=>(∃D,d=mark D∧B≤D∧w.heap[D]?=some (.deferred (some []))∧∀d'∈ds,d'≠mark D)∧marks B ds w
theorem aX.S8 {P:Program} {ρ:aI} {h:ae} {w:World} (H:aX P ρ h w) {D:Nat} {x:Option (List Deferred)} (hD:w.heap[D]?=some (.deferred x)) {j:Nat} {s:RI} (hj:ρ j=some s) (hs:s.bu=D):¬eW h j:=by
 rintro ⟨o,ho,bm⟩
 obtain ⟨o',dN,hr⟩:=H.obj j s hj
 rw [ho] at dN
 cases dN
 subst hs
 cases o with
 | ro e xs=>obtain ⟨_,c,_,fr,h2,_⟩:=hr;rw [hD] at h2;cases h2
 | arr e xs=>obtain ⟨_,_,c,h2,_⟩:=hr;rw [hD] at h2;cases h2
 | smap es=>obtain ⟨aH,clock,h1,_⟩:=hr;rw [hD] at h1;cases h1
 | eP kd es=>obtain ⟨aH,clock,h1,_⟩:=hr;rw [hD] at h1;cases h1
 | df g c es=>obtain ⟨_,aH,h1,_⟩:=hr;rw [hD] at h1;cases h1
 | iter m s n l=>obtain ⟨_,rm,_,h1⟩:=hr;rw [hD] at h1;cases h1
 | loop c ls vs=>obtain ⟨rec,h1,_⟩:=hr;rw [hD] at h1;cases h1
 | dead=>exact bm rfl
theorem marks.tr {P:Program} {ρ av:aI} {h h':ae} {w w':World} (H:aX P ρ h w) (T:Tr ρ h w av h' w') {B:Nat}:∀{ds:List Deferred},marks B ds w→marks B ds w'
 | [],hb=>le_trans hb T.iX
 | d::ds,⟨⟨D,h1,h2,h3,h4⟩,h5⟩=>
  ⟨⟨D,h1,h2,by rw [T.iC D (Array.getElem?_eq_some_iff.1 h3).1 fun j s hj hs hm=>H.S8 h3 hj hs hm.live];exact h3,h4⟩,marks.tr H T h5⟩
theorem marks.lt {B:Nat} {w:World}:∀{ds:List Deferred},marks B ds w→∀d∈ds,∃D,d=mark D∧D<w.heap.size
 | [],_,d,hd=>by simp at hd
 | d::ds,⟨⟨D,h1,h2,h3,h4⟩,h5⟩,d',hd=>by
  rcases List.mem_cons.1 hd with rfl | hd
  ·exact ⟨D,h1,(Array.getElem?_eq_some_iff.1 h3).1⟩
  ·exact marks.lt h5 d' hd
theorem marks.base {B:Nat} {w:World}:∀{ds:List Deferred},marks B ds w→B≤w.heap.size
 | [],h=>h
 | _::_,h=>marks.base h.2
theorem ago {a b:Nat} (h:mark a=mark b):a=b:=by
 simp [mark] at h
 exact h
structure ep (P:Program) (N:Nat) (B:Nat) (ρ:aI) (f:Nat→Value) (h:ae) (a:Act) (w:World):Prop where
 size:a.tmps.size=N
 defers:marks B a.defers w
 tmp:∀t,ay ρ (f t) (a.tmps.getD t Go.undef)
 heap:aX P ρ h w
def yE (f:Nat→Value) (t:Nat) (v:Value):Nat→Value:=fun j=>match Nat.beq j t with | true=>v | false=>f j
theorem tV (f:Nat→Value) (t:Nat) (v:Value):yE f t v=fun j=>if j=t then v else f j:=by
 funext j
 unfold yE
 split
 ·rename_i h;rw [if_pos (Nat.eq_of_beq_eq_true h)]
 ·rename_i h;rw [if_neg (Nat.ne_of_beq_eq_false h)]
def ev (f:Nat→Value):Operand→Value
 | .tmp t=>f t
 | .const v=>v
 | .global g=>.pointer (some ⟨g,0,none⟩)
 | .func f=>.func (.func f) #[] #[]
def mA:Value→Bool
 | .bool _ | .int .. | .string _ | .nilFunc | .nilIface=>true
 | .pointer none | .map none=>true
 | .slice none 0 0=>true
 | _=>false
def jy:Operand→Bool
 | .tmp _=>true
 | .const v=>mA v
 | .global _=>false
 | .func _=>true
theorem mA.rel {ρ:aI} {v:Value} (h:mA v=true):ay ρ v v:=by
 unfold mA at h
 split at h
 ·exact .bool _
 ·exact .int _ _
 ·exact .string _
 ·exact .nilFunc
 ·exact .nilIface
 ·exact .ve
 ·exact .u9
 ·exact .q7
 ·simp at h
theorem ep.ev {P:Program} {N B:Nat} {ρ:aI} {f:Nat→Value} {h:ae} {a:Act} {w:World} (R:ep P N B ρ f h a w) {x:Operand} (hx:jy x=true):
  ay ρ (ev f x) (a.eval x):=by
 cases x with
 | tmp t=>exact R.tmp t
 | const v=>exact mA.rel hx
 | global g=>simp [jy] at hx
 | func g=>exact .func g rfl rfl (fun k x x' e e'=>by simp at e) (fun k x x' e e'=>by simp at e)
theorem ep.put {P:Program} {N B:Nat} {ρ av:aI} {f:Nat→Value} {h h':ae} {a:Act} {w w':World} (R:ep P N B ρ f h a w) {d:Nat} (hd:d<N) {v v':Value}
  (T:Tr ρ h w av h' w') (hv:ay av v v') (H:aX P av h' w'):ep P N B av (yE f d v) h' (a.put (some d) v') w' where
 size:=by simp [Act.put,R.size]
 defers:=marks.tr R.heap T R.defers
 tmp:=by
  intro t
  simp only [tV]
  by_cases ht:t=d
  ·subst ht
   have:t<a.tmps.size:=by rw [R.size];exact hd
   simp [Act.put,Array.getD,this]
   exact hv
  ·rw [if_neg ht]
   have:=(R.tmp t).mono T.ext
   have e:((a.put (some d) v').tmps.getD t Go.undef)=a.tmps.getD t Go.undef:=by
    simp only [Act.put,Array.getD_eq_getD_getElem?,Array.getElem?_setIfInBounds]
    rw [if_neg (by omega)]
   rw [e]
   exact this
 heap:=H
theorem ep.mono {P:Program} {N B:Nat} {ρ av:aI} {f:Nat→Value} {h h':ae} {a:Act} {w w':World} (R:ep P N B ρ f h a w) (T:Tr ρ h w av h' w') (H:aX P av h' w'):
  ep P N B av f h' a w':=⟨R.size,marks.tr R.heap T R.defers,fun t=>(R.tmp t).mono T.ext,H⟩
end
section
def S (l:List UInt8):Value:=.string ⟨l.toArray⟩
def bytes (s:ByteArray):List UInt8:=s.data.toList
theorem arq (l:List UInt8):bytes ⟨l.toArray⟩=l:=by simp [bytes]
theorem Ff (s:ByteArray):(⟨(bytes s).toArray⟩:ByteArray)=s:=by simp [bytes]
inductive ql where
 | mv (x:Operand)
 | pick (c a b:Operand)
 | bin (op:BinOp) (x y:Operand)
 | IH (neg:Bool) (x y:Operand)
 | II (neg:Bool) (x y:Operand)
 | un (op:UnOp) (x:Operand)
 | conv (k:IntKind) (x:Operand)
 | VI (x:Operand)
 | SG (x:Operand)
 | SH (x:Operand)
 | JX (n:Nat)
 | Fc (mx:Bool) (xs:List Operand)
 | Sl (x i:Operand)
 | Sj (n aV:Nat) (agg:Bool) (x i:Operand)
 | OJ (aV:Nat) (x i:Operand)
 | OI (n aV:Nat) (x i:Operand)
 | Qh (off:Nat) (x:Operand)
 | Qk (agg:Bool) (off sz:Nat) (x:Operand)
 | Lq (x:Operand) (lo hi:Option Operand)
 | Ls (e:TypeId) (aV:Nat) (x:Operand) (lo hi:Option Operand)
 | S5 (x:Operand)
 | fn (f:FuncId) (first captured:List Operand)
 | ext (x:Operand) (i:Nat)
 | build (zero:List Value) (parts:List (Nat×Nat×Operand))
 | Sk (f:FuncId) (x c:Operand)
def gY (op:BinOp) (k:IntKind) (a b:Int):Option Value:=
 match op with
 | .add=>some (.int k (k.wrap (a+b)))
 | .sub=>some (.int k (k.wrap (a-b)))
 | .mul=>some (.int k (k.wrap (a*b)))
 | .quo=>if b=0 then none else some (.int k (k.wrap (a.tdiv b)))
 | .rem=>if b=0 then none else some (.int k (a.tmod b))
 | .and=>some (.int k (k.wrap (BitVec.ofInt k.bits a &&& BitVec.ofInt k.bits b).toNat))
 | .or=>some (.int k (k.wrap (BitVec.ofInt k.bits a ||| BitVec.ofInt k.bits b).toNat))
 | .xor=>some (.int k (k.wrap (BitVec.ofInt k.bits a^^^BitVec.ofInt k.bits b).toNat))
 | .andNot=>some (.int k (k.wrap (BitVec.ofInt k.bits a &&& ~~~BitVec.ofInt k.bits b).toNat))
 | .eql=>some (.bool (decide (a=b)))
 | .neq=>some (.bool (!decide (a=b)))
 | .lss=>some (.bool (decide (a<b)))
 | .leq=>some (.bool (decide (a≤b)))
 | .gtr=>some (.bool (decide (b<a)))
 | .geq=>some (.bool (decide (b≤a)))
 | _=>none
def qT (op:BinOp) (k:IntKind) (a b:Int):Option Value:=
 if b<0 then none else
 match op with
 | .shl=>some (.int k (k.wrap (a*2^(min b.toNat k.bits))))
 | .shr=>some (.int k (a.fdiv (2^(min b.toNat k.bits))))
 | _=>none
def As (op:BinOp) (a b:List UInt8):Option Value:=
 match op with
 | .add=>if a.length+b.length≤maxLen then some (S (a++b)) else none
 | .eql=>some (.bool (decide (a=b)))
 | .neq=>some (.bool (!decide (a=b)))
 | .lss=>some (.bool (Op.bytesLess a b))
 | .leq=>some (.bool (Op.bytesLess a b||decide (a=b)))
 | .gtr=>some (.bool (!(Op.bytesLess a b||decide (a=b))))
 | .geq=>some (.bool (!Op.bytesLess a b))
 | _=>none
def ai (op:BinOp) (x y:Value):Option Value:=
 match x,y with
 | .int k a,.int k' b=>
  match op with
  | .shl=>qT .shl k a b
  | .shr=>qT .shr k a b
  | op=>if k=k' then gY op k a b else none
 | .string s,.string t=>As op (bytes s) (bytes t)
 | _,_=>none
def uR (neg:Bool) (x y:Value):Option Value:=
 match x,y with
 | .bool a,.bool b=>some (.bool (if neg then !(a==b) else a==b))
 | _,_=>none
def JL:Value→Option Bool
 | .slice none 0 0=>some true
 | .slice (some _) _ _=>some false
 | _=>none
def Sd (neg:Bool) (x y:Value):Option Value:=
 match JL x,JL y with
 | some a,some b=>if a||b then some (.bool (if neg then !(a&&b) else a&&b)) else none
 | _,_=>none
def gZ (op:UnOp) (x:Value):Option Value:=
 match op,x with
 | .neg,.int k n=>some (.int k (k.wrap (0-n)))
 | .not,.bool b=>some (.bool !b)
 | .xor,.int k n=>some (.int k (k.wrap (BitVec.ofInt k.bits (if k.signed then -1 else k.max)^^^BitVec.ofInt k.bits n).toNat))
 | _,_=>none
def dm (k:IntKind):Value→Option Value
 | .int _ n=>some (.int k (k.wrap n))
 | _=>none
def afj:Value→Option Value
 | .string s=>some (.string s)
 | _=>none
def jP:Value→Option Value
 | .string s=>some (.int .i64 (bytes s).length)
 | _=>none
def bc:Value→Option Value
 | .slice _ n _=>some (.int .i64 n)
 | _=>none
def max2 (mx:Bool):Value→Value→Option Value
 | .int k x,.int _ y=>some (.int k (if mx then (if y>x then y else x) else (if y<x then y else x)))
 | _,_=>none
def wJ (mx:Bool):List Value→Option Value
 | .int k x::rest=>rest.foldlM (max2 mx) (.int k x)
 | _=>none
def nh (x i:Value):Option Value:=
 match x,i with
 | .string s,.int _ i=>if 0≤i then ((bytes s)[i.toNat]?).map fun b=>.int .u8 b.toNat else none
 | _,_=>none
def cm (agg:Bool) (off sz:Nat) (cs:List Value):Option Value:=
 if agg then (if off+sz≤cs.length then some (.agg ((cs.drop off).take sz).toArray) else none) else cs[off]?
def Se (n aV:Nat) (agg:Bool) (x i:Value):Option Value:=
 match x,i with
 | .agg cs,.int _ i=>if 0≤i∧i<n then cm agg (i.toNat*aV) aV cs.toList else none
 | _,_=>none
def aY (aV:Nat) (x i:Value):Option Value:=
 match x,i with
 | .slice (some ⟨id,o,some _⟩) n _,.int _ i=>if 0≤i∧i<n then some (.pointer (some ⟨id,o+i.toNat*aV,none⟩)) else none
 | _,_=>none
def l6 (n aV:Nat) (x i:Value):Option Value:=
 match x,i with
 | .pointer (some ⟨id,o,none⟩),.int _ i=>if 0≤i∧i<n then some (.pointer (some ⟨id,o+i.toNat*aV,none⟩)) else none
 | _,_=>none
def aJ (off:Nat) (x:Value):Option Value:=
 match x with
 | .pointer (some ⟨id,o,none⟩)=>some (.pointer (some ⟨id,o+off,none⟩))
 | _=>none
def Aq (agg:Bool) (off sz:Nat) (x:Value):Option Value:=
 match x with
 | .agg cs=>cm agg off sz cs.toList
 | _=>none
def tI:Value→Option Nat
 | .int _ i=>if 0≤i then some i.toNat else none
 | _=>none
def sf (n:Nat) (lo hi:Option Value):Option (Nat×Nat):=
 match (match lo with | none=>some 0 | some v=>tI v),(match hi with | none=>some n | some v=>tI v) with
 | some l,some h=>if l≤h∧h≤n then some (l,h) else none
 | _,_=>none
def nJ (x:Value) (lo hi:Option Value):Option Value:=
 match x with
 | .string s=>(sf (bytes s).length lo hi).map fun (l,h)=>S (((bytes s).take h).drop l)
 | _=>none
def mJ (e:TypeId) (aV:Nat) (x:Value) (lo hi:Option Value):Option Value:=
 match x with
 | .slice none 0 0=>(sf 0 lo hi).map fun _=>.slice none 0 0
 | .slice (some ⟨id,o,some e'⟩) n _=>
  if e'=e then (sf n lo hi).map fun (l,h)=>.slice (some ⟨id,o+l*aV,some e⟩) (h-l) (h-l) else none
 | _=>none
def tA (x:Value):Option Value:=
 match x with
 | .pointer (some a)=>some (.pointer (some a))
 | .func f a b=>some (.func f a b)
 | _=>none
def cf (i:Nat) (x:Value):Option Value:=
 match x with
 | .tuple vs=>vs[i]?
 | _=>none
def setAt (xs:List Value) (o:Nat) (vs:List Value):List Value:=xs.take o++vs++xs.drop (o+vs.length)
def qw:List Value→List (Nat×Nat×Value)→Option (List Value)
 | xs,[]=>some xs
 | xs,(off,size,v)::rest=>
  if fP v∧(cR v).length=size∧off+size≤xs.length then qw (setAt xs off (cR v)) rest else none
def dW (zero:List Value) (parts:List (Nat×Nat×Value)):Option Value:=(qw zero parts).map fun cs=>.agg cs.toArray
def ck (c a b:Value):Option Value:=
 match c with
 | .bool t=>some (if t then a else b)
 | _=>none
def EV (x c:Value):Option Value:=
 match x,c with
 | .string s,.int .u8 c=>some (.int .i64 (Lib.indexByte (bytes s) c.toNat.toUInt8))
 | _,_=>none
def jx (o:ql) (g:Operand→Value):Option Value:=
 match o with
 | .mv x=>some (g x)
 | .pick c a b=>ck (g c) (g a) (g b)
 | .bin op x y=>ai op (g x) (g y)
 | .IH neg x y=>uR neg (g x) (g y)
 | .II neg x y=>Sd neg (g x) (g y)
 | .un op x=>gZ op (g x)
 | .conv k x=>dm k (g x)
 | .VI x=>afj (g x)
 | .SG x=>jP (g x)
 | .SH x=>bc (g x)
 | .JX n=>some (.int .i64 n)
 | .Fc mx xs=>wJ mx (xs.map g)
 | .Sl x i=>nh (g x) (g i)
 | .Sj n aV agg x i=>Se n aV agg (g x) (g i)
 | .OJ aV x i=>aY aV (g x) (g i)
 | .OI n aV x i=>l6 n aV (g x) (g i)
 | .Qh off x=>aJ off (g x)
 | .Qk agg off sz x=>Aq agg off sz (g x)
 | .Lq x lo hi=>nJ (g x) (lo.map g) (hi.map g)
 | .Ls e aV x lo hi=>mJ e aV (g x) (lo.map g) (hi.map g)
 | .S5 x=>tA (g x)
 | .fn f first captured=>some (.func (.func f) (first.map g).toArray (captured.map g).toArray)
 | .ext x i=>cf i (g x)
 | .build zero parts=>dW zero (parts.map fun (o,s,x)=>(o,s,g x))
 | .Sk f x c=>
  match g (.func f) with
  | .func (.func f') a b=>if f'=f∧a.size=0∧b.size=0 then EV (g x) (g c) else none
  | _=>none
def oE:TypeDesc→Bool
 | .struct _ | .array _ _=>true
 | _=>false
def BI (v:Value):Bool:=mA v&&gN v
def zeroOf (P:Program) (t:TypeId):Option (List Value):=
 match P.info? t with
 | some i=>match i.zero with
  | some z=>if fP z&&(cR z).all BI&&(cR z).length==i.size then some (cR z) else none
  | none=>none
 | none=>none
def placesOf (P:Program) (fs:Array Field):List (Nat×Nat):=fs.toList.map fun f=>(f.offset,P.cellsOf f.type)
def iS (P:Program) (t:TypeId):Bool:=(P.info? t).isSome
def Qc (P:Program) (f:FuncId):Bool:=
 match P.funcs[f]? with
 | some fn=>fn.body.isNone&&fn.name== "internal/bytealg.IndexByteString" &&(Extern.findNext fn).isNone
 | none=>false
def ja (P:Program):Op→Option ql
 | .move x | .assign x=>some (.mv x)
 | .pick c a b=>some (.pick c a b)
 | .binOp op t x y _=>
  match op,P.underlying t with
  | .eql,some .bool=>some (.IH false x y)
  | .neq,some .bool=>some (.IH true x y)
  | .eql,some (.slice _)=>some (.II false x y)
  | .neq,some (.slice _)=>some (.II true x y)
  | op,_=>some (.bin op x y)
 | .unOp op _ x=>some (.un op x)
 | .convert s d x=>
  match P.underlying s,P.underlying d with
  | some (.int _),some (.int k)=>some (.conv k x)
  | some .string,some .string=>some (.VI x)
  | _,_=>none
 | .call { callee:=.builtin .len,args,argTypes }=>
  match args.toList,argTypes.toList with
  | [x],[t]=>
   match P.underlying t with
   | some .string=>some (.SG x)
   | some (.slice _)=>some (.SH x)
   | some (.array n _)=>some (.JX n)
   | _=>none
  | _,_=>none
 | .call { callee:=.builtin .min,args,argTypes:=_ }=>some (.Fc false args.toList)
 | .call { callee:=.builtin .max,args,argTypes:=_ }=>some (.Fc true args.toList)
 | .call { callee:=.value (.func f),args,argTypes:=_ }=>
  match args.toList with
  | [x,c]=>if Qc P f then some (.Sk f x c) else none
  | _=>none
 | .index t x i=>
  match P.underlying t with
  | some .string=>some (.Sl x i)
  | some (.array n e)=>
   match P.underlying e with
   | some d=>if iS P e&&(oE d||P.cellsOf e==1) then some (.Sj n (P.cellsOf e) (oE d) x i) else none
   | none=>none
  | _=>none
 | .indexAddr t x i=>
  match P.underlying t with
  | some (.slice e)=>if iS P e then some (.OJ (P.cellsOf e) x i) else none
  | some (.array n e)=>if iS P e then some (.OI n (P.cellsOf e) x i) else none
  | _=>none
 | .fieldAddr t x f=>
  match P.underlying t with
  | some (.struct fs)=>
   match fs[f]? with
   | some fd=>if iS P fd.type&&P.cellsOf fd.type != 0 then some (.Qh fd.offset x) else none
   | none=>none
  | _=>none
 | .field t x f=>
  match P.underlying t with
  | some (.struct fs)=>
   match fs[f]? with
   | some fd=>
    match P.underlying fd.type with
    | some d=>if iS P fd.type&&(oE d||P.cellsOf fd.type==1) then some (.Qk (oE d) fd.offset (P.cellsOf fd.type) x) else none
    | none=>none
   | none=>none
  | _=>none
 | .slice t x lo hi mx=>
  match P.underlying t,mx with
  | some .string,none=>some (.Lq x lo hi)
  | some (.slice e),none=>if iS P e then some (.Ls e (P.cellsOf e) x lo hi) else none
  | _,_=>none
 | .nilCheck x=>some (.S5 x)
 | .makeFunc (.func f) first captured=>some (.fn f first.toList captured.toList)
 | .extract x i=>some (.ext x i)
 | .build t parts=>
  match P.underlying t,zeroOf P t with
  | some (.struct fs),some z=>
   if fs.all fun f=>iS P f.type then
    match parts.toList.mapM (m:=Option) fun (i,x)=>(placesOf P fs)[i]? |>.map fun (o,s)=>(o,s,x) with
    | some ps=>some (.build z ps)
    | none=>none
   else none
  | some (.array _ e),some z=>if iS P e then some (.build z (parts.toList.map fun (i,x)=>(i*P.cellsOf e,P.cellsOf e,x))) else none
  | _,_=>none
 | _=>none
end
section
theorem ay.mK {ρ:aI} {k:IntKind} {n:Int} {v:Value} (h:ay ρ (.int k n) v):v=.int k n:=by cases h;rfl
theorem ay.zi {ρ:aI} {b:Bool} {v:Value} (h:ay ρ (.bool b) v):v=.bool b:=by cases h;rfl
theorem ay.xe {ρ:aI} {s:ByteArray} {v:Value} (h:ay ρ (.string s) v):v=.string s:=by cases h;rfl
theorem ay.S (ρ:aI) (l:List UInt8):ay ρ (S l) (S l):=.string _
theorem toList_eq (s:ByteArray):s.toList=bytes s:=by
 obtain ⟨⟨l⟩⟩:=s
 exact ByteArray.toList_mk l
theorem arp (s t:ByteArray):(s.toList==t.toList)=decide (bytes s=bytes t):=by
 rw [toList_eq,toList_eq]
 by_cases h:bytes s=bytes t <;> simp [h]
theorem FN (s:ByteArray):s.size=(bytes s).length:=by simp [bytes]
theorem ard (s t:ByteArray):s++t=⟨(bytes s++bytes t).toArray⟩:=by
 apply ByteArray.ext
 apply ext'
 simp [bytes]
section
variable (P : Program) (w : World)
theorem aEa {op:BinOp} {k:IntKind} {a b:Int} {v:Value} (t:TypeId) (cY:op≠ .shl) (axt:op≠ .shr) (h:gY op k a b=some v):
  (binOp op t (.int k a) (.int k b)).run P w=.ok v w:=by
 cases op <;> simp [gY] at h <;> simp at cY axt <;> (first | subst h | (obtain ⟨hb,h⟩:=h;subst h)) <;>
  simp_all [binOp,Op.intArith,Op.intDiv,Op.intBits,Op.intCmp]
 ·rw [Bool.eq_iff_iff];simp
 ·rw [Bool.eq_iff_iff];simp
theorem amH {op:BinOp} {k k':IntKind} {a b:Int} {v:Value} (t:TypeId) (cY:op=.shl∨op=.shr) (h:qT op k a b=some v):
  (binOp op t (.int k a) (.int k' b)).run P w=.ok v w:=by
 unfold qT at h
 by_cases hb:b<0
 ·rw [if_pos hb] at h;cases h
 ·rw [if_neg hb] at h
  rcases cY with rfl | rfl <;> simp at h <;> subst h <;> simp [binOp,Op.shift,hb]
theorem aEo {op:BinOp} {s s':ByteArray} {v:Value} (t:TypeId) (h:As op (bytes s) (bytes s')=some v):
  (binOp op t (.string s) (.string s')).run P w=.ok v w:=by
 have e1:=arp s s'
 have hl:IntKind.i64.max=9223372036854775807:=rfl
 cases op <;> simp [As] at h <;> (first | subst h | (obtain ⟨hb,h⟩:=h;subst h)) <;> simp only [binOp,Op.stringOp]
 all_goals first
  | (rw [e1];simp [toList_eq];done)
  | (simp [toList_eq];done)
  | skip
 ·unfold maxLen at hb
  rw [if_neg (by rw [hl,FN,FN];omega)]
  rw [ard]
  rfl
theorem aDQ (op:BinOp) (t:TypeId) (x y:Operand) (k k':IntKind) (a b:Int):(eqGuard op t x y (.int k a) (.int k' b)).run P w=.ok () w:=by
 unfold eqGuard
 cases op <;> simp
theorem aDS (op:BinOp) (t:TypeId) (x y:Operand) (a b:ByteArray):(eqGuard op t x y (.string a) (.string b)).run P w=.ok () w:=by
 unfold eqGuard
 cases op <;> simp
theorem aDP (op:BinOp) (t:TypeId) (x y:Operand) (a b:Bool):(eqGuard op t x y (.bool a) (.bool b)).run P w=.ok () w:=by
 unfold eqGuard
 cases op <;> simp
theorem aDR (op:BinOp) (t:TypeId) (x y:Operand) (a b:Option Addr) (n m c d:Nat):(eqGuard op t x y (.slice a n c) (.slice b m d)).run P w=.ok () w:=by
 unfold eqGuard
 cases op <;> simp
theorem aDY {ρ:aI} {op:BinOp} {x y x' y' v:Value} (t:TypeId) (ox oy:Operand) (h:ai op x y=some v) (hx:ay ρ x x') (hy:ay ρ y y'):
  (do eqGuard op t ox oy x' y';binOp op t x' y':Sem Value).run P w=.ok v w∧ay ρ v v:=by
 unfold ai at h
 split at h
 ·rename_i k a k' b
  rw [hx.mK,hy.mK]
  have hv:(binOp op t (.int k a) (.int k' b)).run P w=.ok v w∧ay ρ v v:=by
   split at h
   ·refine ⟨amH P w t (.inl rfl) h,?_⟩
    unfold qT at h
    split at h <;> simp at h
    subst h;exact .int _ _
   ·refine ⟨amH P w t (.inr rfl) h,?_⟩
    unfold qT at h
    split at h <;> simp at h
    subst h;exact .int _ _
   ·rename_i h1 h2
    split at h
    ·rename_i hk
     subst hk
     refine ⟨aEa P w t h1 h2 h,?_⟩
     cases op <;> simp [gY] at h <;> (first | subst h | (obtain ⟨_,h⟩:=h;subst h)) <;> first | exact .int _ _ | exact .bool _
    ·cases h
  simp only [Sem.run_bind,aDQ,Result.andThen_ok]
  exact hv
 ·rename_i s s'
  rw [hx.xe,hy.xe]
  simp only [Sem.run_bind,aDS,Result.andThen_ok]
  refine ⟨aEo P w t h,?_⟩
  cases op <;> simp [As] at h <;> (first | subst h | (obtain ⟨_,h⟩:=h;subst h)) <;> first | exact .string _ | exact .bool _
 ·cases h
theorem amA {ρ:aI} {neg:Bool} {op:BinOp} {x y x' y' v:Value} (t:TypeId) (ox oy:Operand) (ht:P.underlying t=some .bool) (cY:op=if neg then .neq else .eql)
  (h:uR neg x y=some v) (hx:ay ρ x x') (hy:ay ρ y y'):
  (do eqGuard op t ox oy x' y';binOp op t x' y':Sem Value).run P w=.ok v w∧ay ρ v v:=by
 unfold uR at h
 split at h
 ·rename_i a b
  rw [hx.zi,hy.zi]
  simp only [Sem.run_bind,aDP,Result.andThen_ok]
  simp at h
  subst h
  refine ⟨?_,.bool _⟩
  cases neg <;> simp at cY <;> subst cY
  ·exact run_eql_bool w t a b ht
  ·exact run_neq_bool w t a b ht
 ·cases h
theorem amB {ρ:aI} {neg:Bool} {op:BinOp} {x y x' y' v:Value} {e:TypeId} (t:TypeId) (ox oy:Operand) (ht:P.underlying t=some (.slice e)) (cY:op=if neg then .neq else .eql)
  (h:Sd neg x y=some v) (hx:ay ρ x x') (hy:ay ρ y y'):
  (do eqGuard op t ox oy x' y';binOp op t x' y':Sem Value).run P w=.ok v w∧ay ρ v v:=by
 unfold Sd at h
 split at h
 ·rename_i a b ha hb
  split at h
  ·rename_i gn
   simp at h
   subst h
   refine ⟨?_,.bool _⟩
   cases hx <;> simp [JL] at ha <;> cases hy <;> simp [JL] at hb <;> subst ha <;> subst hb <;> simp at gn
   all_goals
    simp only [Sem.run_bind,aDR,Result.andThen_ok]
    cases neg <;> simp at cY <;> subst cY <;> simp only [Lib.run_eql_slice_nil w t e _ _ _ _ _ ht,run_neq_slice_nil_any w t e _ _ _ _ _ ht,run_eql_nil_slice w t e _ _ _ _ _ ht,run_neq_nil_slice w t e _ _ _ _ _ ht] <;> simp
  ·cases h
 ·cases h
theorem aEp {ρ:aI} {op:UnOp} {x x' v:Value} (h:gZ op x=some v) (hx:ay ρ x x'):(Op.unary op x').run P w=.ok v w∧ay ρ v v:=by
 unfold gZ at h
 split at h
 ·rw [hx.mK];simp at h;subst h;exact ⟨by simp [Op.unary,Op.intArith],.int _ _⟩
 ·rw [hx.zi];simp at h;subst h;exact ⟨by simp [Op.unary],.bool _⟩
 ·rw [hx.mK];simp only [Option.some.injEq] at h;subst h;exact ⟨rfl,.int _ _⟩
 ·cases h
end
end
section
section
variable {P : Program} (w : World)
theorem ayn {t:TypeId} (h:iS P t=true):∃i,P.info? t=some i:=by
 unfold iS at h
 exact Option.isSome_iff_exists.1 h
theorem rh {t:TypeId} (h:iS P t=true):(sizeOf t).run P w=.ok (P.cellsOf t) w:=by
 obtain ⟨i,hi⟩:=ayn h
 exact run_sizeOf w hi
theorem Vx {t:TypeId} {d:TypeDesc} (h:P.underlying t=some d):(isAgg t).run P w=.ok (oE d) w:=by
 cases d <;> simp [isAgg,run_underlying h,oE]
theorem azy {mx:Bool} {k:IntKind} {x:Int} {y v:Value} (h:max2 mx (.int k x) y=some v):∃k' b,y=.int k' b∧∃z,v=.int k z:=by
 unfold max2 at h
 split at h
 ·rename_i k2 x2 k3 y2 e
  cases e
  simp at h
  exact ⟨k3,y2,rfl,_,h.symm⟩
 ·cases h
theorem Vy {ρ:aI} {mx:Bool}:∀{xs ft:List Value} {k:IntKind} {x:Int} {v:Value},xs.foldlM (max2 mx) (.int k x)=some v→bF ρ xs ft→
  (ft.foldlM (if mx then Builtin.max2 else Builtin.min2) (.int k x):Sem Value).run P w=.ok v w∧ay ρ v v
 | [],ft,k,x,v,h,hs=>by
  cases hs
  simp at h
  subst h
  exact ⟨rfl,.int _ _⟩
 | y::xs,ft,k,x,v,h,hs=>by
  cases hs with
  | cons hy hs=>
   simp only [List.foldlM_cons,Option.bind_eq_bind,bind_eq_some_iff] at h
   obtain ⟨u,hu,h⟩:=h
   obtain ⟨k',b,rfl,z,rfl⟩:=azy hu
   have ih:=Vy (ρ:=ρ) h hs
   refine ⟨?_,ih.2⟩
   rw [hy.mK]
   simp only [List.foldlM_cons,Sem.run_bind]
   simp only [max2,Option.some.injEq,Value.int.injEq,true_and] at hu
   cases mx
   ·simp at hu⊢
    simp only [Builtin.min2,Sem.run_pure,Result.andThen_ok,hu]
    simpa using ih.1
   ·simp at hu⊢
    simp only [Builtin.max2,Sem.run_pure,Result.andThen_ok,gt_iff_lt,hu]
    simpa using ih.1
theorem aD9 {ρ:aI} {t:TypeId} {x i x' i' v:Value} (ht:P.underlying t=some .string) (h:nh x i=some v) (hx:ay ρ x x') (hi:ay ρ i i'):
  (Instr.index t x' i').run P w=.ok v w∧ay ρ v v:=by
 unfold nh at h
 split at h
 ·rename_i s k j
  rw [hx.xe,hi.mK]
  split at h
  ·rename_i h0
   simp only [map_eq_some_iff] at h
   obtain ⟨b,hb,rfl⟩:=h
   refine ⟨?_,.int _ _⟩
   have kQ:s[j.toNat]?=some b:=by
    have aB:=(bL hb).1
    have:j.toNat<s.size:=by rw [FN];exact aB
    rw [getElem?_pos s j.toNat this]
    have e:=(bL hb).2
    simp only [bytes,Array.getElem_toList] at e
    rw [←e]
    rfl
   simp [Instr.index,asIntOf,run_underlying ht,h0,kQ]
  ·cases h
 ·cases h
theorem aya {ρ:aI} {agg:Bool} {off sz:Nat} {cs:List Value} {jv:Array Value} {v:Value} (h:cm agg off sz cs=some v) (hs:bF ρ cs jv.toList) (h1:∀x∈cs,gN x=true):
  ∃v',(if agg then some (.agg (jv.extract off (off+sz))) else jv[off]?)=some v'∧ay ρ v v':=by
 unfold cm at h
 cases agg
 ·simp at h⊢
  obtain ⟨y,hy,hr⟩:=hs.get h
  exact ⟨y,by simpa using hy,hr⟩
 ·simp at h⊢
  obtain ⟨hl,rfl⟩:=h
  have:=((hs.drop off).take sz)
  have e:(jv.extract off (off+sz))=((jv.toList.drop off).take sz).toArray:=by
   apply ext'
   simp [List.take_drop]
  rw [e]
  exact .Dx this (fun x hx=>h1 x (List.mem_of_mem_drop (List.mem_of_mem_take hx)))
theorem amG {ρ:aI} {t:TypeId} {d:TypeDesc} {off:Nat} {cs:List Value} {jv:Array Value} {v:Value} (ht:P.underlying t=some d) (hk:iS P t=true)
  (h:cm (oE d) off (P.cellsOf t) cs=some v) (hs:bF ρ cs jv.toList) (h1:∀x∈cs,gN x=true):
  ∃v',(part t jv off).run P w=.ok v' w∧ay ρ v v':=by
 obtain ⟨v',hv,hr⟩:=aya h hs h1
 refine ⟨v',?_,hr⟩
 unfold part
 simp only [Sem.run_bind,Vx w ht,Result.andThen_ok]
 cases hd:oE d
 ·rw [hd] at hv
  simp at hv⊢
  rw [hv]
  rfl
 ·rw [hd] at hv
  simp at hv⊢
  simp only [rh w hk,Result.andThen_ok,hv]
theorem ay.YY {ρ:aI} {cs:Array Value} {x':Value} (h:ay ρ (.agg cs) x'):∃jv,x'=.agg jv∧bF ρ cs.toList jv.toList∧∀x∈cs.toList,gN x=true:=by
 cases h with
 | agg hs h1 h=>exact ⟨_,rfl,bF.tU hs h,h1⟩
theorem aD8 {ρ:aI} {t e:TypeId} {d:TypeDesc} {n:Nat} {x i x' i' v:Value} (ht:P.underlying t=some (.array n e)) (he:P.underlying e=some d) (hk:iS P e=true)
  (h:Se n (P.cellsOf e) (oE d) x i=some v) (hx:ay ρ x x') (hi:ay ρ i i'):
  ∃v',(Instr.index t x' i').run P w=.ok v' w∧ay ρ v v':=by
 unfold Se at h
 split at h
 ·rename_i cs k j
  obtain ⟨jv,rfl,hs,h1⟩:=hx.YY
  rw [hi.mK]
  split at h
  ·rename_i h0
   obtain ⟨v',hr,hv⟩:=amG w he hk h hs h1
   refine ⟨v',?_,hv⟩
   simp [Instr.index,asIntOf,run_underlying ht,h0,rh w hk,hr]
  ·cases h
 ·cases h
theorem aD7 {ρ:aI} {t:TypeId} {fs:Array Field} {f:Nat} {fd:Field} {d:TypeDesc} {x x' v:Value} (ht:P.underlying t=some (.struct fs)) (hf:fs[f]?=some fd) (he:P.underlying fd.type=some d)
  (hk:iS P fd.type=true) (h:Aq (oE d) fd.offset (P.cellsOf fd.type) x=some v) (hx:ay ρ x x'):
  ∃v',(Instr.field t x' f).run P w=.ok v' w∧ay ρ v v':=by
 unfold Aq at h
 split at h
 ·rename_i cs
  obtain ⟨jv,rfl,hs,h1⟩:=hx.YY
  obtain ⟨v',hr,hv⟩:=amG w he hk h hs h1
  refine ⟨v',?_,hv⟩
  simp [Instr.field,run_underlying ht,hf,asAgg,hr]
 ·cases h
theorem aDU {ρ:aI} {t e:TypeId} {x i x' i' v:Value} (ht:P.underlying t=some (.slice e)) (hk:iS P e=true)
  (h:aY (P.cellsOf e) x i=some v) (hx:ay ρ x x') (hi:ay ρ i i'):
  ∃v',(Instr.indexAt t x' i').run P w=.ok v' w∧ay ρ v v':=by
 unfold aY at h
 split at h
 ·rename_i id o e' n c k j
  split at h
  ·rename_i h0
   simp at h
   subst h
   rw [hi.mK]
   cases hx with
   | slice hr ho hn hc hb=>
    rename_i o' c' r
    have dN:o'=r.sh+o:=by
     rcases ho with ho | ⟨h1,h2,h3⟩
     ·exact ho
     ·omega
    subst dN
    refine ⟨_,?_,ay.ptr hr⟩
    simp [Instr.indexAt,asIntOf,run_underlying ht,h0,rh w hk,Addr.add_lit,Nat.add_assoc]
  ·cases h
 ·cases h
theorem ay.FG {ρ:aI} {id o:Nat} {x':Value} (h:ay ρ (.pointer (some ⟨id,o,none⟩)) x'):∃r,ρ id=some r∧x'=.pointer (some ⟨r.bu,r.sh+o,none⟩):=by
 cases h with
 | ptr hr=>exact ⟨_,hr,rfl⟩
theorem aDT {ρ:aI} {t e:TypeId} {n:Nat} {x i x' i' v:Value} (ht:P.underlying t=some (.array n e)) (hk:iS P e=true)
  (h:l6 n (P.cellsOf e) x i=some v) (hx:ay ρ x x') (hi:ay ρ i i'):
  ∃v',(Instr.indexAt t x' i').run P w=.ok v' w∧ay ρ v v':=by
 unfold l6 at h
 split at h
 ·rename_i id o k j
  split at h
  ·rename_i h0
   simp at h
   subst h
   rw [hi.mK]
   obtain ⟨r,hr,rfl⟩:=hx.FG
   refine ⟨_,?_,ay.ptr hr⟩
   simp [Instr.indexAt,asIntOf,run_underlying ht,h0,rh w hk,Instr.sureAddr,Addr.add_lit,Nat.add_assoc]
  ·cases h
 ·cases h
theorem aD6 {ρ:aI} {t:TypeId} {fs:Array Field} {f:Nat} {fd:Field} {x x' v:Value} (ht:P.underlying t=some (.struct fs)) (hf:fs[f]?=some fd) (hk:iS P fd.type=true)
  (hz:P.cellsOf fd.type≠0) (h:aJ fd.offset x=some v) (hx:ay ρ x x'):
  ∃v',(Instr.fieldAt t x' f).run P w=.ok v' w∧ay ρ v v':=by
 unfold aJ at h
 split at h
 ·rename_i id o
  simp at h
  subst h
  obtain ⟨r,hr,rfl⟩:=hx.FG
  refine ⟨_,?_,ay.ptr hr⟩
  simp [Instr.fieldAt,run_underlying ht,hf,Instr.sureAddr,fieldPlace,rh w hk,hz,Addr.add_lit,Nat.add_assoc]
 ·cases h
theorem agI {ρ:aI} {v v':Value} {n:Nat} (h:tI v=some n) (hv:ay ρ v v'):∃k i,v'=.int k i∧0≤i∧i.toNat=n:=by
 unfold tI at h
 split at h
 ·rename_i k i
  rw [hv.mK]
  split at h
  ·rename_i h0
   simp at h
   exact ⟨k,i,rfl,h0,h⟩
  ·cases h
 ·cases h
def yR (ρ:aI):Option Value→Option Value→Prop
 | none,none=>True
 | some a,some b=>ay ρ a b
 | _,_=>False
theorem Vw {ρ:aI} {n cap:Nat} {isSlice:Bool} {lo hi pf iE:Option Value} {l h:Nat} (he:sf n lo hi=some (l,h)) (hc:n≤cap) (eD:yR ρ lo pf) (jO:yR ρ hi iE):
  (Instr.sliceBounds isSlice n cap pf iE none).run P w=.ok (l,h,cap) w∧l≤h∧h≤n:=by
 unfold sf at he
 split at he
 ·rename_i l1 h1 hl hh
  split at he
  ·rename_i hb
   simp at he
   obtain ⟨rfl,rfl⟩:=he
   refine ⟨?_,hb.1,hb.2⟩
   have bh:∀(v:Value),iE=some v→∃k i,v=.int k i∧0≤i∧i.toNat=h1:=by
    intro v hv
    subst hv
    cases hi with
    | none=>exact jO.elim
    | some u=>exact agI hh jO
   have bh0:iE=none→h1=n:=by
    intro hv
    subst hv
    cases hi with
    | none=>simpa using hh.symm
    | some u=>exact jO.elim
   have bl:∀(v:Value),pf=some v→∃k i,v=.int k i∧0≤i∧i.toNat=l1:=by
    intro v hv
    subst hv
    cases lo with
    | none=>exact eD.elim
    | some u=>exact agI hl eD
   have Zg:pf=none→l1=0:=by
    intro hv
    subst hv
    cases lo with
    | none=>simpa using hl.symm
    | some u=>exact eD.elim
   unfold Instr.sliceBounds
   cases iE with
   | none=>
    obtain rfl:=bh0 rfl
    cases pf with
    | none=>obtain rfl:=Zg rfl;simp
    | some v=>
     obtain ⟨k,i,rfl,h0,rfl⟩:=bl v rfl
     have:i≤(h1:Int):=by omega
     simp [Instr.sliceBound,asIntOf,h0,this]
   | some u=>
    obtain ⟨k,i,rfl,h0,rfl⟩:=bh u rfl
    have zV:i≤(cap:Int):=by omega
    cases pf with
    | none=>obtain rfl:=Zg rfl;simp [Instr.sliceBound,asIntOf,h0,zV]
    | some v=>
     obtain ⟨k2,j,rfl,h2,rfl⟩:=bl v rfl
     have:j≤i:=by omega
     simp [Instr.sliceBound,asIntOf,h0,zV,h2,this,Int.toNat_of_nonneg h0]
  ·cases he
 ·cases he
theorem awc (s:ByteArray) (l h:Nat):s.extract l h=⟨(((bytes s).take h).drop l).toArray⟩:=by
 apply ByteArray.ext
 apply ext'
 simp only [bytes,ByteArray.data_extract,Array.toList_extract,List.drop_take]
theorem aEl {ρ:aI} {t:TypeId} {x x' v:Value} {lo hi pf iE:Option Value} (ht:P.underlying t=some .string) (h:nJ x lo hi=some v) (hx:ay ρ x x')
  (eD:yR ρ lo pf) (jO:yR ρ hi iE):(Instr.sliceAt t x' pf iE none).run P w=.ok v w∧ay ρ v v:=by
 unfold nJ at h
 split at h
 ·rename_i s
  rw [hx.xe]
  simp only [map_eq_some_iff,Prod.exists] at h
  obtain ⟨l,u,hb,rfl⟩:=h
  obtain ⟨hr,h1,h2⟩:=Vw (P:=P) w (isSlice:=false) hb (le_refl _) eD jO
  refine ⟨?_,ay.S _ _⟩
  rw [←FN] at hr
  simp [Instr.sliceAt,Instr.slice,run_underlying ht,hr,S,awc]
 ·cases h
theorem aEm {ρ:aI} {t e:TypeId} {x x' v:Value} {lo hi pf iE:Option Value} (hH:∀i r,ρ i=some r→r.aV=P.cellsOf r.elem) (ht:P.underlying t=some (.slice e)) (hk:iS P e=true)
  (h:mJ e (P.cellsOf e) x lo hi=some v) (hx:ay ρ x x') (eD:yR ρ lo pf) (jO:yR ρ hi iE):
  ∃v',(Instr.sliceAt t x' pf iE none).run P w=.ok v' w∧ay ρ v v':=by
 unfold mJ at h
 split at h
 ·simp only [map_eq_some_iff,Prod.exists] at h
  obtain ⟨l,u,hb,rfl⟩:=h
  obtain ⟨hr,h1,h2⟩:=Vw (P:=P) w (isSlice:=true) hb (le_refl _) eD jO
  cases hx
  refine ⟨_,?_,.q7⟩
  obtain rfl:u=0:=by omega
  obtain rfl:l=0:=by omega
  simp [Instr.sliceAt,Instr.slice,run_underlying ht,hr,rh w hk]
 ·rename_i id o e' n c
  split at h
  ·rename_i QY
   subst QY
   simp only [map_eq_some_iff,Prod.exists] at h
   obtain ⟨l,u,hb,rfl⟩:=h
   cases hx with
   | slice hr ho hn hc B4=>
    rename_i o' c' r
    obtain ⟨gq,h1,h2⟩:=Vw (P:=P) w (isSlice:=true) hb hn eD jO
    have jq:=hH _ _ hr
    by_cases fO:c'=l
    ·refine ⟨.slice (some ⟨r.bu,o',none⟩) (u-l) (c' -l),?_,?_⟩
     ·rw [fO] at gq⊢
      simp [Instr.sliceAt,Instr.slice,run_underlying ht,gq,rh w hk]
     ·refine ay.slice hr ?_ (by omega) (by omega) ?_
      ·rcases Nat.eq_zero_or_pos (l*P.cellsOf r.elem) with hz | hz
       ·rw [hz]
        rcases ho with ho | ⟨q1,q2,q3⟩
        ·exact .inl (by omega)
        ·exact .inr ⟨by omega,by omega,by omega⟩
       ·exact .inr ⟨by omega,by omega,by omega⟩
      ·have:c' -l=0:=by omega
       rw [this]
       have:o'≤o'+c'*r.aV:=Nat.le_add_right _ _
       omega
    ·refine ⟨.slice (some ⟨r.bu,o'+l*P.cellsOf r.elem,none⟩) (u-l) (c' -l),?_,?_⟩
     ·simp [Instr.sliceAt,Instr.slice,run_underlying ht,gq,rh w hk,fO,Addr.add_lit]
     ·refine ay.slice hr ?_ (by omega) (by omega) ?_
      ·rcases ho with ho | ⟨q1,q2,q3⟩
       ·exact .inl (by omega)
       ·exfalso;omega
      ·rw [←jq]
       have e1:l*r.aV+(c' -l)*r.aV=c'*r.aV:=by rw [←add_mul];congr 1;omega
       omega
  ·cases h
 ·cases h
theorem aEj {ρ:aI} {o:Oper} {ox:Operand} {g':Operand→Value} {x v:Value} (ho:o.op=.nilCheck ox) (h:tA x=some v) (hx:ay ρ x (g' ox)):
  ∃v',(execOp g' o).run P w=.ok (.value v') w∧ay ρ v v':=by
 unfold tA at h
 split at h
 ·simp at h
  subst h
  generalize hy:g' ox=y at hx
  have bY:=hx
  cases hx with
  | ptr hr=>
   refine ⟨_,?_,bY⟩
   simp [execOp,ho,hy]
 ·simp at h
  subst h
  generalize hy:g' ox=y at hx
  have bY:=hx
  cases hx with
  | func f a b c d=>
   refine ⟨_,?_,bY⟩
   simp [execOp,ho,hy]
  | yield hr=>
   refine ⟨_,?_,bY⟩
   simp [execOp,ho,hy]
 ·cases h
theorem aD5 {ρ:aI} {x x' v:Value} {i:Nat} (h:cf i x=some v) (hx:ay ρ x x'):∃v',(Instr.extract x' i).run P w=.ok v' w∧ay ρ v v':=by
 unfold cf at h
 split at h
 ·cases hx with
  | tuple hs hr=>
   obtain ⟨y,hy,hv⟩:=(bF.tU hs hr).get (k:=i) (x:=v) (by simpa using h)
   refine ⟨y,?_,hv⟩
   simp only [getElem?_toList] at hy
   simp [Instr.extract,hy]
 ·cases h
end
theorem bF.AK {ρ:aI} {g g':Operand→Value} (hg:∀x,jy x=true→ay ρ (g x) (g' x)):∀{xs:List Operand},xs.all jy=true→bF ρ (xs.map g) (xs.map g')
 | [],_=>.nil
 | x::xs,h=>by
  simp at h
  exact .cons (hg x h.1) (bF.AK hg (by simpa using h.2))
end
section
theorem aEu (l:List Value) (o:Nat) (v:Value) (vs:List Value) (h:o<l.length):setAt (l.set o v) (o+1) vs=setAt l o (v::vs):=by
 have e:l.set o v=l.take o++v::l.drop (o+1):=by rw [List.set_eq_take_append_cons_drop,if_pos h]
 have hl:(l.take o).length=o:=by simp;omega
 unfold setAt
 have e1:(l.set o v).take (o+1)=l.take o++[v]:=by
  rw [e,List.take_append,hl,List.take_of_length_le (by omega)]
  simp
 have e2:(l.set o v).drop (o+1+vs.length)=l.drop (o+(v::vs).length):=by
  rw [List.drop_set,if_pos (by omega)]
  congr 1
  simp
  omega
 rw [e1,e2]
 simp
theorem aEy (vs:List Value):∀(off i:Nat) (cs:Array Value),off+i+vs.length≤cs.size→
  ((vs.zipIdx i).foldl (fun cs (c,j)=>cs.setIfInBounds (off+j) c) cs).toList=setAt cs.toList (off+i) vs:=by
 induction vs with
 | nil=>intro off i cs h;simp [setAt]
 | cons v vs ih=>
  intro off i cs h
  simp only [List.zipIdx_cons,List.foldl_cons]
  rw [ih off (i+1) _ (by simp at h⊢;omega)]
  rw [Array.toList_setIfInBounds,show off+(i+1)=off+i+1 by omega]
  exact aEu _ _ _ _ (by simp at h⊢;omega)
theorem aEx {ρ:aI} {xs ys:List Value} (h:bF ρ xs ys) {o:Nat} {vs jS:List Value} (hv:bF ρ vs jS):bF ρ (setAt xs o vs) (setAt ys o jS):=by
 unfold setAt
 rw [←hv.length]
 exact ((h.take o).append hv).append (h.drop _)
theorem aEv {xs:List Value} {o:Nat} {vs:List Value} {p:Value→Prop} (h:∀x∈xs,p x) (hv:∀x∈vs,p x):∀x∈setAt xs o vs,p x:=by
 intro x hx
 unfold setAt at hx
 simp only [List.mem_append] at hx
 rcases hx with (hx | hx) | hx
 ·exact h x (List.mem_of_mem_take hx)
 ·exact hv x hx
 ·exact h x (List.mem_of_mem_drop hx)
inductive vN (ρ:aI) (place:Nat→Option (Nat×Nat)):List (Nat×Nat×Value)→List (Nat×Value)→Prop
 | nil:vN ρ place [] []
 | cons {o s i:Nat} {v v':Value} {ps:List (Nat×Nat×Value)} {qs:List (Nat×Value)}:place i=some (o,s)→ay ρ v v'→vN ρ place ps qs→vN ρ place ((o,s,v)::ps) ((i,v')::qs)
theorem Qi {ρ:aI} {place:Nat→Option (Nat×Nat)} {ps:List (Nat×Nat×Value)} {qs:List (Nat×Value)} (hp:vN ρ place ps qs):
  ∀{xs cs:List Value} {ys:Array Value},qw xs ps=some cs→bF ρ xs ys.toList→(∀x∈xs,gN x=true)→
   ∃jv,Instr.fill place ys qs=some jv∧bF ρ cs jv.toList∧(∀x∈cs,gN x=true)∧cs.length=xs.length:=by
 induction hp with
 | nil=>
  intro xs cs ys h hs h1
  simp [qw] at h
  subst h
  exact ⟨ys,by simp [Instr.fill],hs,h1,rfl⟩
 | cons j5 hv _ ih=>
  rename_i o s i v v' ps qs _
  intro xs cs ys h hs h1
  simp only [qw] at h
  split at h
  ·rename_i hc
   obtain ⟨ht,hl,ho⟩:=hc
   have Cq:=hv.cells ht
   have oX:v'.cells.size=s:=by rw [←hl,Cq.length];simp [cR]
   have kU:o+v'.cells.size≤ys.size:=by have:=hs.length;simp at this;omega
   have Eo:=aEy (cR v') o 0 ys (by simp [cR];omega)
   simp only [Nat.add_zero] at Eo
   have xV:v'.cells.zipIdx.foldl (fun cs x=>cs.setIfInBounds (o+x.2) x.1) ys=(setAt ys.toList o (cR v')).toArray:=by
    apply ext'
    rw [←Eo,←Array.foldl_toList]
    simp [cR,Array.toList_zipIdx]
   obtain ⟨jv,hf,hr,h2,hlen⟩:=ih (ys:=(setAt ys.toList o (cR v')).toArray) h (by simpa using aEx hs Cq) (aEv h1 (hv.Io ht))
   refine ⟨jv,?_,hr,h2,?_⟩
   ·unfold Instr.fill
    simp only [j5]
    rw [if_neg (by simp [oX];omega)]
    rw [←hf,←xV]
   ·rw [hlen]
    simp [setAt]
    omega
  ·cases h
theorem Dd {P:Program} {t:TypeId} {zs:List Value} (h:zeroOf P t=some zs):
  ∃i z,P.info? t=some i∧i.zero=some z∧zs=cR z∧fP z=true∧(∀x∈zs,mA x=true∧gN x=true)∧zs.length=i.size:=by
 unfold zeroOf at h
 split at h
 ·rename_i i hi
  split at h
  ·rename_i z hz
   split at h
   ·rename_i hc
    simp at h
    subst h
    simp only [and_eq_true,all_eq_true,BI,beq_iff_eq] at hc
    exact ⟨i,z,hi,hz,rfl,hc.1.1,fun x hx=>hc.1.2 x hx,hc.2⟩
   ·cases h
  ·cases h
 ·cases h
theorem bF.closed {ρ:aI}:∀{zs:List Value},(∀x∈zs,mA x=true)→bF ρ zs zs
 | [],_=>.nil
 | x::zs,h=>.cons (mA.rel (h x (by simp))) (bF.closed fun y hy=>h y (by simp [hy]))
section
variable {P : Program} (w : World)
theorem A2 {t:TypeId} {i:TypeInfo} {z:Value} (hi:P.info? t=some i) (hz:i.zero=some z):(zeroValue t).run P w=.ok z w:=by
 simp [zeroValue,typeInfo,hi,hz]
theorem amJ:∀(fs:List Field),(∀f∈fs,iS P f.type=true)→
  (fs.mapM (m:=Sem) fun f=>do pure (f.offset,←sizeOf f.type)).run P w=.ok (fs.map fun f=>(f.offset,P.cellsOf f.type)) w
 | [],_=>rfl
 | f::fs,h=>by
  have ih:=amJ fs (fun g hg=>h g (by simp [hg]))
  simp only [List.mapM_cons,Sem.run_bind,rh w (h f (by simp)),Result.andThen_ok,Sem.run_pure,ih,List.map_cons]
end
end
section
section
variable {P : Program} (w : World) {ρ : aI} {g g' : Operand → Value}
theorem Km (hg:∀x,jy x=true→ay ρ (g x) (g' x)) (l:Option Operand) (h:l.toArray.all jy=true):yR ρ (l.map g) (l.map g'):=by
 cases l with
 | none=>trivial
 | some x=>exact hg x (by simpa using h)
theorem alc (hg:∀x,jy x=true→ay ρ (g x) (g' x)) (place:Nat→Option (Nat×Nat)):∀(qs:List (Nat×Operand)) (ps:List (Nat×Nat×Operand)),
  qs.mapM (m:=Option) (fun (i,x)=>(place i).map fun (o,s)=>(o,s,x))=some ps→(∀q∈qs,jy q.2=true)→
  vN ρ place (ps.map fun (o,s,x)=>(o,s,g x)) (qs.map fun (i,x)=>(i,g' x))
 | [],ps,h,_=>by
  simp at h
  subst h
  exact .nil
 | (i,x)::qs,ps,h,hq=>by
  simp only [List.mapM_cons,Option.bind_eq_bind,bind_eq_some_iff] at h
  obtain ⟨p,hp,ps',Ci,h⟩:=h
  simp at h
  subst h
  simp only [map_eq_some_iff] at hp
  obtain ⟨⟨o,s⟩,j5,rfl⟩:=hp
  exact .cons j5 (hg x (hq (i,x) (by simp))) (alc hg place qs ps' Ci fun q hm=>hq q (by simp [hm]))
theorem US (hg:∀x,jy x=true→ay ρ (g x) (g' x)) (pl:Nat→Nat×Nat):∀(qs:List (Nat×Operand)),(∀q∈qs,jy q.2=true)→
  vN ρ (fun i=>some (pl i)) ((qs.map fun (i,x)=>((pl i).1,(pl i).2,x)).map fun (o,s,x)=>(o,s,g x)) (qs.map fun (i,x)=>(i,g' x))
 | [],_=>.nil
 | (i,x)::qs,hq=>.cons rfl (hg x (hq (i,x) (by simp))) (US hg pl qs fun q hm=>hq q (by simp [hm]))
theorem aD1 {t:TypeId} {fs:Array Field} {zs:List Value} {ps:List (Nat×Nat×Value)} {qs:Array (Nat×Value)} {v:Value} (ht:P.underlying t=some (.struct fs)) (hz:zeroOf P t=some zs)
  (hk:∀f∈fs.toList,iS P f.type=true) (hp:vN ρ ((placesOf P fs)[·]?) ps qs.toList) (h:dW zs ps=some v):
  ∃v',(Instr.build t qs).run P w=.ok v' w∧ay ρ v v':=by
 obtain ⟨i,z,hi,qS,rfl,oA,fO,hlen⟩:=Dd hz
 simp only [dW,map_eq_some_iff] at h
 obtain ⟨cs,hf,rfl⟩:=h
 obtain ⟨jv,Cc,hr,h1,_⟩:=Qi (ys:=z.cells) hp hf (bF.closed fun x hx=>(fO x hx).1) (fun x hx=>(fO x hx).2)
 refine ⟨.agg jv,?_,?_⟩
 ·have hm:=amJ (P:=P) w fs.toList hk
  have gp:(fs.mapM (m:=Sem) fun f=>do pure (f.offset,←sizeOf f.type)).run P w=.ok (fs.toList.map fun f=>(f.offset,P.cellsOf f.type)).toArray w:=by
   rw [Array.mapM_eq_mapM_toList]
   simp only [Sem.run_map,hm,Result.andThen_ok]
  have j5:(fun (x:Nat)=>((fs.toList.map fun f=>(f.offset,P.cellsOf f.type)).toArray)[x]?)=((placesOf P fs)[·]?):=by
   funext x
   simp [placesOf]
  simp only [Instr.build,Sem.run_bind,A2 w hi qS,Result.andThen_ok,run_underlying ht,gp]
  rw [j5,Cc]
  simp
 ·have:=ay.Dx (ρ:=ρ) hr h1
  simpa using this
theorem aD0 {t e:TypeId} {n:Nat} {zs:List Value} {ps:List (Nat×Nat×Value)} {qs:Array (Nat×Value)} {v:Value} (ht:P.underlying t=some (.array n e)) (hz:zeroOf P t=some zs)
  (hk:iS P e=true) (hp:vN ρ (fun i=>some (i*P.cellsOf e,P.cellsOf e)) ps qs.toList) (h:dW zs ps=some v):
  ∃v',(Instr.build t qs).run P w=.ok v' w∧ay ρ v v':=by
 obtain ⟨i,z,hi,qS,rfl,oA,fO,hlen⟩:=Dd hz
 simp only [dW,map_eq_some_iff] at h
 obtain ⟨cs,hf,rfl⟩:=h
 obtain ⟨jv,Cc,hr,h1,_⟩:=Qi (ys:=z.cells) hp hf (bF.closed fun x hx=>(fO x hx).1) (fun x hx=>(fO x hx).2)
 refine ⟨.agg jv,?_,?_⟩
 ·simp only [Instr.build,Sem.run_bind,A2 w hi qS,Result.andThen_ok,run_underlying ht,rh w hk]
  rw [Cc]
  simp
 ·have:=ay.Dx (ρ:=ρ) hr h1
  simpa using this
theorem awi {fn:Func} (h:fn.name= "internal/bytealg.IndexByteString"):Extern.find fn=some Extern.BytealgIndexByte.indexByte:=by
 unfold Extern.find
 rw [h]
 rfl
theorem awb {f:FuncId} (h:Qc P f=true):∃fn,P.funcs[f]?=some fn∧(fn.name== "runtime.NumGoroutine")=false∧fn.body.isNone=true∧Extern.findNext fn=none∧Extern.find fn=some Extern.BytealgIndexByte.indexByte:=by
 unfold Qc at h
 split at h
 ·rename_i fn hf
  simp only [and_eq_true,beq_iff_eq] at h
  obtain ⟨⟨h1,h2⟩,h3⟩:=h
  exact ⟨fn,hf,by rw [h2];decide,h1,by simpa using h3,awi h2⟩
 ·cases h
theorem aAt {o:Oper} {po:ql} (hc:ja P o.op=some po) (aC:o.op.operands.all jy=true) (hH:∀i r,ρ i=some r→r.aV=P.cellsOf r.elem)
  (hg:∀x,jy x=true→ay ρ (g x) (g' x)) {v:Value} (hi:jx po g=some v):∃v',(execOp g' o).run P w=.ok (.value v') w∧ay ρ v v':=by
 cases ho:o.op with
 | move x=>
  rw [ho] at hc aC
  simp [ja] at hc;subst hc
  simp [Op.operands] at aC
  simp [jx] at hi;subst hi
  exact ⟨g' x,by simp [execOp,ho],hg x aC⟩
 | assign x=>
  rw [ho] at hc aC
  simp [ja] at hc;subst hc
  simp [Op.operands] at aC
  simp [jx] at hi;subst hi
  exact ⟨g' x,by simp [execOp,ho],hg x aC⟩
 | pick c a b=>
  rw [ho] at hc aC
  simp [ja] at hc;subst hc
  simp [Op.operands] at aC
  simp only [jx,ck] at hi
  split at hi
  ·rename_i t ht
   have xW:=hg c aC.1
   rw [ht] at xW
   simp at hi;subst hi
   refine ⟨if t then g' a else g' b,by simp [execOp,ho,xW.zi,asBool],?_⟩
   cases t
   ·simpa using hg b aC.2.2
   ·simpa using hg a aC.2.1
  ·cases hi
 | binOp op t x y yt=>
  rw [ho] at hc aC
  simp [Op.operands] at aC
  have hx:=hg x aC.1
  have hy:=hg y aC.2
  simp only [ja] at hc
  have fin:∀v',(do eqGuard op t x y (g' x) (g' y);binOp op t (g' x) (g' y):Sem Value).run P w=.ok v' w→(execOp g' o).run P w=.ok (.value v') w:=by
   intro v' h
   simp only [execOp,ho]
   simp only [Sem.run_bind] at h⊢
   rw [h]
   rfl
  split at hc
  ·simp at hc;subst hc
   obtain ⟨h1,h2⟩:=amA P w (op:=.eql) t x y ‹_› rfl hi hx hy
   exact ⟨v,fin v h1,h2⟩
  ·simp at hc;subst hc
   obtain ⟨h1,h2⟩:=amA P w (op:=.neq) t x y ‹_› rfl hi hx hy
   exact ⟨v,fin v h1,h2⟩
  ·simp at hc;subst hc
   obtain ⟨h1,h2⟩:=amB P w (op:=.eql) t x y ‹_› rfl hi hx hy
   exact ⟨v,fin v h1,h2⟩
  ·simp at hc;subst hc
   obtain ⟨h1,h2⟩:=amB P w (op:=.neq) t x y ‹_› rfl hi hx hy
   exact ⟨v,fin v h1,h2⟩
  ·simp at hc;subst hc
   obtain ⟨h1,h2⟩:=aDY P w t x y hi hx hy
   exact ⟨v,fin v h1,h2⟩
 | unOp op t x=>
  rw [ho] at hc aC
  simp [ja] at hc;subst hc
  simp [Op.operands] at aC
  obtain ⟨h1,h2⟩:=aEp P w hi (hg x aC)
  exact ⟨v,by simp [execOp,ho,h1],h2⟩
 | convert s d x=>
  rw [ho] at hc aC
  simp [Op.operands] at aC
  simp only [ja] at hc
  split at hc
  ·rename_i k0 k hs hd
   simp at hc;subst hc
   simp only [jx,dm] at hi
   split at hi
   ·rename_i k1 n hx
    have:=hg x aC
    rw [hx] at this
    simp at hi;subst hi
    refine ⟨_,?_,.int _ _⟩
    simp [execOp,ho,this.mK,convert,run_underlying hs,run_underlying hd,Conv.intToInt]
   ·cases hi
  ·rename_i hs hd
   simp at hc;subst hc
   simp only [jx,afj] at hi
   split at hi
   ·rename_i z hx
    have:=hg x aC
    rw [hx] at this
    simp at hi;subst hi
    refine ⟨_,?_,.string _⟩
    simp [execOp,ho,this.xe,convert,run_underlying hs,run_underlying hd]
   ·cases hi
  ·cases hc
 | indexAddr t x i=>
  rw [ho] at hc aC
  simp [Op.operands] at aC
  simp only [ja] at hc
  split at hc
  ·rename_i e ht
   split at hc
   ·rename_i hk
    simp at hc;subst hc
    obtain ⟨v',h1,h2⟩:=aDU w ht hk hi (hg x aC.1) (hg i aC.2)
    exact ⟨v',by simp [execOp,ho,h1],h2⟩
   ·cases hc
  ·rename_i n e ht
   split at hc
   ·rename_i hk
    simp at hc;subst hc
    obtain ⟨v',h1,h2⟩:=aDT w ht hk hi (hg x aC.1) (hg i aC.2)
    exact ⟨v',by simp [execOp,ho,h1],h2⟩
   ·cases hc
  ·cases hc
 | index t x i=>
  rw [ho] at hc aC
  simp [Op.operands] at aC
  simp only [ja] at hc
  split at hc
  ·rename_i ht
   simp at hc;subst hc
   obtain ⟨h1,h2⟩:=aD9 w ht hi (hg x aC.1) (hg i aC.2)
   exact ⟨v,by simp [execOp,ho,h1],h2⟩
  ·rename_i n e ht
   split at hc
   ·rename_i d hd
    split at hc
    ·rename_i hk
     simp at hc;subst hc
     simp only [and_eq_true] at hk
     obtain ⟨v',h1,h2⟩:=aD8 w ht hd hk.1 hi (hg x aC.1) (hg i aC.2)
     exact ⟨v',by simp [execOp,ho,h1],h2⟩
    ·cases hc
   ·cases hc
  ·cases hc
 | fieldAddr t x f=>
  rw [ho] at hc aC
  simp [Op.operands] at aC
  simp only [ja] at hc
  split at hc
  ·rename_i fs ht
   split at hc
   ·rename_i fd hf
    split at hc
    ·rename_i hk
     simp at hc;subst hc
     simp only [and_eq_true,bne_iff_ne] at hk
     obtain ⟨v',h1,h2⟩:=aD6 w ht hf hk.1 hk.2 hi (hg x aC)
     exact ⟨v',by simp [execOp,ho,h1],h2⟩
    ·cases hc
   ·cases hc
  ·cases hc
 | field t x f=>
  rw [ho] at hc aC
  simp [Op.operands] at aC
  simp only [ja] at hc
  split at hc
  ·rename_i fs ht
   split at hc
   ·rename_i fd hf
    split at hc
    ·rename_i d hd
     split at hc
     ·rename_i hk
      simp at hc;subst hc
      simp only [and_eq_true] at hk
      obtain ⟨v',h1,h2⟩:=aD7 w ht hf hd hk.1 hi (hg x aC)
      exact ⟨v',by simp [execOp,ho,h1],h2⟩
     ·cases hc
    ·cases hc
   ·cases hc
  ·cases hc
 | slice t x lo iE mx=>
  rw [ho] at hc aC
  simp only [ja] at hc
  split at hc
  ·rename_i ht
   simp at hc;subst hc
   simp only [Op.operands,Array.all_append,and_eq_true] at aC
   obtain ⟨⟨⟨h0,h1⟩,h2⟩,_⟩:=aC
   obtain ⟨k1,k2⟩:=aEl w ht hi (hg x (by simpa using h0)) (Km hg lo h1) (Km hg iE h2)
   exact ⟨v,by simp [execOp,ho,k1],k2⟩
  ·rename_i e ht
   split at hc
   ·rename_i hk
    simp at hc;subst hc
    simp only [Op.operands,Array.all_append,and_eq_true] at aC
    obtain ⟨⟨⟨h0,h1⟩,h2⟩,_⟩:=aC
    obtain ⟨v',k1,k2⟩:=aEm w hH ht hk hi (hg x (by simpa using h0)) (Km hg lo h1) (Km hg iE h2)
    exact ⟨v',by simp [execOp,ho,k1],k2⟩
   ·cases hc
  ·cases hc
 | nilCheck x=>
  rw [ho] at hc aC
  simp [ja] at hc;subst hc
  simp [Op.operands] at aC
  exact aEj w ho hi (hg x aC)
 | makeFunc fn first captured=>
  rw [ho] at hc aC
  cases fn with
  | func f=>
   simp [ja] at hc;subst hc
   simp only [Op.operands,Array.all_append,and_eq_true] at aC
   simp [jx] at hi;subst hi
   have h1:=bF.AK hg (xs:=first.toList) (by simpa using aC.1)
   have h2:=bF.AK hg (xs:=captured.toList) (by simpa using aC.2)
   refine ⟨.func (.func f) (first.map g') (captured.map g'),by simp [execOp,ho,Instr.makeFunc],?_⟩
   refine .func f (by simp) (by simp) ?_ ?_
   ·have:=h1.ofList
    simpa using this
   ·have:=h2.ofList
    simpa using this
  | _=>simp [ja] at hc
 | extract x i=>
  rw [ho] at hc aC
  simp [ja] at hc;subst hc
  simp [Op.operands] at aC
  obtain ⟨v',h1,h2⟩:=aD5 (P:=P) w hi (hg x aC)
  exact ⟨v',by simp [execOp,ho,h1],h2⟩
 | build t parts=>
  rw [ho] at hc aC
  simp only [ja] at hc
  simp only [Op.operands] at aC
  have hq:∀q∈parts.toList,jy q.2=true:=by
   intro q hm
   rw [Array.all_eq_true'] at aC
   exact aC q.2 (by simp;exact ⟨q.1,by simpa using hm⟩)
  split at hc
  ·rename_i fs zs ht hz
   split at hc
   ·rename_i hk
    split at hc
    ·rename_i ps Ci
     simp at hc;subst hc
     have hp:=alc hg ((placesOf P fs)[·]?) parts.toList ps Ci hq
     have cW:∀f∈fs.toList,iS P f.type=true:=by
      rw [Array.all_eq_true'] at hk
      intro f hf
      exact hk f (by simpa using hf)
     obtain ⟨v',h1,h2⟩:=aD1 w ht hz cW (qs:=parts.map fun (i,x)=>(i,g' x)) (by simpa using hp) hi
     exact ⟨v',by simp [execOp,ho,h1],h2⟩
    ·cases hc
   ·cases hc
  ·rename_i n e zs ht hz
   split at hc
   ·rename_i hk
    simp at hc;subst hc
    have hp:=US hg (fun i=>(i*P.cellsOf e,P.cellsOf e)) parts.toList hq
    obtain ⟨v',h1,h2⟩:=aD0 w ht hz hk (qs:=parts.map fun (i,x)=>(i,g' x)) (by simpa using hp) hi
    exact ⟨v',by simp [execOp,ho,h1],h2⟩
   ·cases hc
  ·cases hc
 | call c=>
  rw [ho] at hc aC
  obtain ⟨callee,args,argTypes⟩:=c
  cases callee with
  | builtin b=>
   simp only [Op.operands,Call.operands,Array.empty_append] at aC
   have sW:=bF.AK hg (xs:=args.toList) (by simpa using aC)
   have fin:∀v',(∀BK,(builtin b argTypes o.type BK (args.map g')).run P w=.ok (.value v') w)→(execOp g' o).run P w=.ok (.value v') w:=by
    intro v' h
    simp [execOp,ho,resolve,invoke,h]
   cases b with
   | len=>
    simp only [ja] at hc
    split at hc
    ·rename_i x t hx wE
     obtain rfl:args=#[x]:=ext' hx
     obtain rfl:argTypes=#[t]:=ext' wE
     simp at aC
     have hr:=hg x aC
     split at hc
     ·rename_i ht
      simp at hc;subst hc
      simp only [jx,jP] at hi
      split at hi
      ·rename_i s hs
       rw [hs] at hr
       simp at hi;subst hi
       refine ⟨_,fin _ ?_,.int _ _⟩
       intro BK
       simp [builtin,Builtin.len_,run_underlying ht,hr.xe,goInt,FN]
      ·cases hi
     ·rename_i e ht
      simp at hc;subst hc
      simp only [jx,bc] at hi
      split at hi
      ·rename_i a n c hs
       rw [hs] at hr
       simp at hi;subst hi
       refine ⟨_,fin _ ?_,.int _ _⟩
       intro BK
       generalize hy:g' x=y at hr
       cases hr <;> simp [builtin,Builtin.len_,run_underlying ht,hy,goInt]
      ·cases hi
     ·rename_i n e ht
      simp at hc;subst hc
      simp [jx] at hi;subst hi
      refine ⟨_,fin _ ?_,.int _ _⟩
      intro BK
      simp [builtin,Builtin.len_,run_underlying ht,goInt]
     ·cases hc
    ·cases hc
   | min=>
    simp [ja] at hc;subst hc
    simp only [jx,wJ] at hi
    split at hi
    ·rename_i k n rest hl
     rw [hl] at sW
     generalize hy:args.toList.map g'=ys at sW
     cases sW with
     | cons h1 h2=>
      rename_i y0 ys0
      have e:=h1.mK
      subst e
      obtain ⟨k1,k2⟩:=Vy (P:=P) w hi h2
      refine ⟨v,fin v ?_,k2⟩
      intro BK
      simp only [builtin,Sem.run_bind,Builtin.min_,Array.toList_map,hy]
      simp at k1
      rw [k1]
      rfl
    ·cases hi
   | max=>
    simp [ja] at hc;subst hc
    simp only [jx,wJ] at hi
    split at hi
    ·rename_i k n rest hl
     rw [hl] at sW
     generalize hy:args.toList.map g'=ys at sW
     cases sW with
     | cons h1 h2=>
      rename_i y0 ys0
      have e:=h1.mK
      subst e
      obtain ⟨k1,k2⟩:=Vy (P:=P) w hi h2
      refine ⟨v,fin v ?_,k2⟩
      intro BK
      simp only [builtin,Sem.run_bind,Builtin.max_,Array.toList_map,hy]
      simp at k1
      rw [k1]
      rfl
    ·cases hi
   | _=>simp [ja] at hc
  | value y=>
   cases y with
   | func f=>
    simp only [ja] at hc
    split at hc
    ·rename_i x c hx
     split at hc
     ·rename_i hf
      simp at hc;subst hc
      obtain rfl:args=#[x,c]:=ext' hx
      simp [Op.operands,Call.operands] at aC
      simp only [jx] at hi
      split at hi
      ·rename_i f' a b hgf
       split at hi
       ·rename_i gn
        obtain ⟨rfl,ha,hb⟩:=gn
        obtain rfl:=Array.eq_empty_of_size_eq_zero ha
        obtain rfl:=Array.eq_empty_of_size_eq_zero hb
        have h0:=hg (.func f') aC.1
        rw [hgf] at h0
        generalize hy:g' (.func f')=y at h0
        cases h0 with
        | func _ s1 s2 _ _=>
         rename_i ft Bf
         obtain rfl:=Array.eq_empty_of_size_eq_zero s1.symm
         obtain rfl:=Array.eq_empty_of_size_eq_zero s2.symm
         simp only [EV] at hi
         split at hi
         ·rename_i s n hs hn
          injection hi with hi
          subst hi
          have h1:=hg x aC.2.1
          have h2:=hg c aC.2.2
          rw [hs] at h1
          rw [hn] at h2
          have e1:=h1.xe
          have e2:=h2.mK
          refine ⟨_,?_,.int _ _⟩
          obtain ⟨fn,q1,q2,q3,q4,q5⟩:=awb hf
          have:=run_callFunc_extern (P:=P) q1 q2 q3 q4 q5 #[.string s,.int .u8 n] w
          simp [execOp,ho,resolve,Deferred.ofValue,invoke,hy,e1,e2]
          rw [this,Lib.run_indexByteString]
          rfl
         ·cases hi
       ·cases hi
      ·cases hi
     ·cases hc
    ·cases hc
   | _=>simp [ja] at hc
  | _=>simp [ja] at hc
 | _=>rw [ho] at hc;simp [ja] at hc
end
end
section
theorem fS.mono {ρ av:aI} (h:ρ.le av) {c:Array Value} {sh:Nat} {xs:List Value} (hc:fS ρ c sh xs):fS av c sh xs:=by
 intro j x hj
 obtain ⟨h1,y,hy,hr⟩:=hc j x hj
 exact ⟨h1,y,hy,hr.mono h⟩
theorem lJ.mono {ρ av:aI} {w w':World} {r:RI} {o:ak} (hle:ρ.le av) (hw:w'.heap[r.bu]?=w.heap[r.bu]?) (h:lJ ρ w r o):lJ av w' r o:=by
 cases o with
 | ro e xs=>
  obtain ⟨h1,c,t,fr,h2,h3,h4⟩:=h
  exact ⟨h1,c,t,fr,by rw [hw];exact h2,h3,h4.mono hle⟩
 | arr e xs=>
  obtain ⟨h1,h0,c,h2,h3,h4⟩:=h
  exact ⟨h1,h0,c,by rw [hw];exact h2,h3,h4.mono hle⟩
 | smap es=>
  obtain ⟨aH,clock,h1,h2,h3⟩:=h
  refine ⟨aH,clock,by rw [hw];exact h1,h2,?_⟩
  intro j k v hj
  obtain ⟨en,he,hk,hv⟩:=h3 j k v hj
  exact ⟨en,he,hk,hv.mono hle⟩
 | eP kd es=>
  obtain ⟨aH,clock,h1,h2,h3⟩:=h
  refine ⟨aH,clock,by rw [hw];exact h1,h2,?_⟩
  intro j k v hj
  obtain ⟨en,he,hk,hv⟩:=h3 j k v hj
  exact ⟨en,he,hk,hv.mono hle⟩
 | df g c es=>
  obtain ⟨h0,aH,h1,h2,h3⟩:=h
  refine ⟨h0,aH,by rw [hw];exact h1,h2,?_⟩
  intro j b k v hj
  obtain ⟨hg,en,he,hk,hb,hv⟩:=h3 j b k v hj
  exact ⟨hg,en,he,hk,hb,hv.mono hle⟩
 | iter m s n l=>
  obtain ⟨h0,rm,h1,h2⟩:=h
  exact ⟨h0,rm,hle _ _ h1,by rw [hw];exact h2⟩
 | loop c ls vs=>
  obtain ⟨rec,h1,h2,h3,h4,h5,h6,h7,h8⟩:=h
  exact ⟨rec,by rw [hw];exact h1,h2,h3,h4,h5,h6,h7,fun t=>(h8 t).mono hle⟩
 | dead=>trivial
def aI.add (ρ:aI) (i:Nat) (r:RI):aI:=fun j=>if j=i then some r else ρ j
theorem aI.wO {ρ:aI} {i:Nat} {r:RI} (h:ρ i=none):ρ.le (ρ.add i r):=by
 intro j s hj
 unfold aI.add
 split
 ·rename_i e;subst e;rw [h] at hj;cases hj
 ·exact hj
theorem aX.none {P:Program} {ρ:aI} {h:ae} {w:World} (H:aX P ρ h w):ρ h.length=none:=by
 cases hr:ρ h.length with
 | none=>rfl
 | some r=>exact absurd (H.lt hr) (Nat.lt_irrefl _)
theorem CF {P:Program} {ρ:aI} {h:ae} {w:World} (H:aX P ρ h w) {i:Nat} {r:RI} (hi:ρ i=some r) (hl:eW h i):r.bu<w.heap.size:=by
 obtain ⟨o,ho,hr⟩:=H.obj i r hi
 obtain ⟨o',dN,bm⟩:=hl
 rw [ho] at dN
 cases dN
 have key:∀{x:Obj},w.heap[r.bu]?=some x→r.bu<w.heap.size:=fun h=>(Array.getElem?_eq_some_iff.1 h).1
 cases o with
 | ro e xs=>obtain ⟨_,c,_,fr,h2,_⟩:=hr;exact key h2
 | arr e xs=>obtain ⟨_,_,c,h2,_⟩:=hr;exact key h2
 | smap es=>obtain ⟨aH,clock,h1,_⟩:=hr;exact key h1
 | eP kd es=>obtain ⟨aH,clock,h1,_⟩:=hr;exact key h1
 | df g c es=>obtain ⟨_,aH,h1,_⟩:=hr;exact key h1
 | iter m s n l=>obtain ⟨_,rm,_,h1⟩:=hr;exact key h1
 | loop c ls vs=>obtain ⟨rec,h1,_⟩:=hr;exact key h1
 | dead=>exact absurd rfl bm
structure jZ (w:World) (b:Obj) (w':World):Prop where
 heap:w'.heap=w.heap.push b
 os:w'.os=w.os
 tape:w'.tape=w.tape
 output:w'.output=w.output
theorem jZ.alloc (w:World) (b:Obj):jZ w b (w.alloc b):=⟨rfl,rfl,rfl,rfl⟩
theorem jZ.drew (w:World) (b:Obj):jZ w b (w.drew.alloc b):=⟨rfl,rfl,rfl,rfl⟩
theorem jZ.old {w w':World} {b:Obj} (n:jZ w b w') {k:Nat} (h:k<w.heap.size):w'.heap[k]?=w.heap[k]?:=by
 rw [n.heap,Array.getElem?_push,if_neg (by omega)]
theorem jZ.new {w w':World} {b:Obj} (n:jZ w b w'):w'.heap[w.heap.size]?=some b:=by
 rw [n.heap,Array.getElem?_push,if_pos rfl]
theorem jZ.size {w w':World} {b:Obj} (n:jZ w b w'):w'.heap.size=w.heap.size+1:=by
 rw [n.heap];simp
theorem aX.new {P:Program} {ρ:aI} {h h₀:ae} {w w':World} {b:Obj} {r:RI} {o:ak} (H:aX P ρ h w) (nb:jZ w b w') (hb:r.bu=w.heap.size) (he:r.aV=P.cellsOf r.elem)
  (hk:h₀.length=h.length) (hd:∀i:Nat,h₀[i]?=h[i]?∨h₀[i]?=some ak.dead)
  (ho:lJ (ρ.add h.length r) w' r o):aX P (ρ.add h.length r) (h₀++[o]) w'∧Tr ρ h w (ρ.add h.length r) (h₀++[o]) w':=by
 have hle:=aI.wO (r:=r) H.none
 have jr:∀i,i<h.length→cC (h₀++[o]) i→cC h i:=by
  intro i hi hm
  unfold cC at hm⊢
  rw [getElem?_append_left (by omega)] at hm
  rcases hd i with e | e <;> rw [e] at hm
  ·exact hm
  ·rcases hm with ⟨_,_,hm⟩ | ⟨_,hm⟩ | ⟨_,_,_,hm⟩ | ⟨_,_,hm⟩ | ⟨_,_,_,hm⟩ | ⟨_,_,_,_,hm⟩ <;> cases hm
 have zZ:∀i,i<h.length→eW (h₀++[o]) i→eW h i:=by
  intro i hi hm
  unfold eW at hm⊢
  rw [getElem?_append_left (by omega)] at hm
  rcases hd i with e | e <;> rw [e] at hm
  ·exact hm
  ·obtain ⟨o',h1,h2⟩:=hm;cases h1;exact absurd rfl h2
 have bu:∀i s,ρ i=some s→eW (h₀++[o]) i→s.bu<w.heap.size:=fun i s hi hl=>CF H hi (zZ i (H.lt hi) hl)
 constructor
 ·constructor
  ·intro i s hi
   unfold aI.add at hi
   split at hi
   ·rename_i e
    subst e
    cases hi
    refine ⟨o,?_,ho⟩
    rw [←hk]
    simp
   ·obtain ⟨o',dN,hr⟩:=H.obj i s hi
    have aB:=H.lt hi
    rw [getElem?_append_left (by omega)]
    rcases hd i with e | e
    ·refine ⟨o',by rw [e];exact dN,?_⟩
     by_cases xZ:o'=.dead
     ·subst xZ;trivial
     ·exact hr.mono hle (nb.old (CF H hi ⟨o',dN,xZ⟩))
    ·exact ⟨.dead,e,trivial⟩
  ·intro i j s t hi hj b7 hm hl
   unfold aI.add at hi hj
   split at hi <;> split at hj
   ·omega
   ·rename_i e1 e2
    cases hi
    have:=bu j t hj hl
    omega
   ·rename_i e1 e2
    cases hj
    have:=bu i s hi hm.live
    omega
   ·exact H.inj i j s t hi hj b7 (jr i (H.lt hi) hm) (zZ j (H.lt hj) hl)
  ·intro i s hi
   unfold aI.add at hi
   split at hi
   ·cases hi;exact he
   ·exact H.aV i s hi
 ·exact {
   ext:=hle
   len:=by simp;omega
   jN:=fun i s hi=>H.lt hi
   kinds:=jr
   fresh:=by
    intro i s hi hn
    unfold aI.add at hi
    split at hi
    ·rename_i e;cases hi;exact ⟨by omega,.inl (by omega)⟩
    ·rw [hn] at hi;cases hi
   iX:=by rw [nb.size];omega
   iC:=fun k cW _=>nb.old cW
   os:=nb.os
   tape:=nb.tape
   output:=nb.output }
structure mW (w:World) (k:Nat) (b:Obj) (w':World):Prop where
 here:w'.heap[k]?=some b
 other:∀j,j≠k→w'.heap[j]?=w.heap[j]?
 size:w'.heap.size=w.heap.size
 os:w'.os=w.os
 tape:w'.tape=w.tape
 output:w'.output=w.output
theorem mW.row {w:World} {g:Nat} {c:Array Value} {e:TypeId} {fr:Nat×Nat} (hg:w.heap[g]?=some (.cells c e fr)) (c':Array Value):mW w g (.cells c' e fr) (w.setRow g c') where
 here:=by simp [World.setRow,Array.getElem?_modify,hg]
 other:=by intro j hj;simp [World.setRow,Array.getElem?_modify,Ne.symm hj]
 size:=by simp [World.setRow]
 os:=rfl
 tape:=rfl
 output:=rfl
theorem aX.set {P:Program} {ρ:aI} {h:ae} {w w':World} {b:Obj} {i:Nat} {r:RI} {o:ak} (H:aX P ρ h w) (hi:ρ i=some r) (hm:cC h i) (sb:mW w r.bu b w')
  (ho:lJ ρ w' r o):aX P ρ (h.set i o) w'∧Tr ρ h w ρ (h.set i o) w':=by
 have aB:=H.lt hi
 have jr:∀j,cC (h.set i o) j→cC h j:=by
  intro j hj
  by_cases e:j=i
  ·subst e;exact hm
  ·unfold cC at hj⊢
   rw [getElem?_set_ne (Ne.symm e)] at hj
   exact hj
 have zZ:∀j,eW (h.set i o) j→eW h j:=by
  intro j hj
  by_cases e:j=i
  ·subst e;exact hm.live
  ·unfold eW at hj⊢
   rw [getElem?_set_ne (Ne.symm e)] at hj
   exact hj
 constructor
 ·constructor
  ·intro j s hj
   by_cases e:j=i
   ·subst e
    rw [hi] at hj
    cases hj
    exact ⟨o,by rw [List.getElem?_set_self aB],ho⟩
   ·obtain ⟨o',dN,hr⟩:=H.obj j s hj
    refine ⟨o',by rw [getElem?_set_ne (Ne.symm e)];exact dN,?_⟩
    by_cases xZ:o'=.dead
    ·subst xZ;trivial
    ·refine hr.mono (.refl _) (sb.other _ ?_)
     intro hb
     exact e (H.inj i j r s hi hj hb.symm hm ⟨o',dN,xZ⟩).symm
  ·intro j k s t hj hk b7 gp hl
   exact H.inj j k s t hj hk b7 (jr j gp) (zZ k hl)
  ·exact H.aV
 ·exact {
   ext:=.refl _
   len:=by simp
   jN:=fun j s hj=>H.lt hj
   kinds:=fun j _ hj=>jr j hj
   fresh:=fun j s h1 h2=>by rw [h1] at h2;cases h2
   iX:=by rw [sb.size];exact le_refl _
   iC:=fun k _ dB=>sb.other k fun e=>dB i r hi e.symm hm
   os:=sb.os
   tape:=sb.tape
   output:=sb.output }
theorem aX.move {P:Program} {ρ:aI} {h:ae} {w w':World} {b:Obj} {i:Nat} {r:RI} {o:ak} (H:aX P ρ h w) (hi:ρ i=some r) (hm:cC h i) (sb:mW w r.bu b w')
  (ho:lJ (ρ.add h.length r) w' r o):aX P (ρ.add h.length r) (h.set i .dead++[o]) w'∧Tr ρ h w (ρ.add h.length r) (h.set i .dead++[o]) w':=by
 have aB:=H.lt hi
 have hle:=aI.wO (r:=r) H.none
 have get:∀j,j<h.length→j≠i→(h.set i .dead++[o])[j]?=h[j]?:=by
  intro j hj e
  rw [getElem?_append_left (by simpa using hj),getElem?_set_ne (Ne.symm e)]
 have Qz:(h.set i .dead++[o])[i]?=some .dead:=by
  rw [getElem?_append_left (by simpa using aB),List.getElem?_set_self aB]
 have jr:∀j,j<h.length→cC (h.set i .dead++[o]) j→cC h j∧j≠i:=by
  intro j hj gp
  have bm:j≠i:=by
   intro e
   subst e
   unfold cC at gp
   rw [Qz] at gp
   rcases gp with ⟨_,_,h1⟩ | ⟨_,h1⟩ | ⟨_,_,_,h1⟩ | ⟨_,_,h1⟩ | ⟨_,_,_,h1⟩ | ⟨_,_,_,_,h1⟩ <;> cases h1
  refine ⟨?_,bm⟩
  unfold cC at gp⊢
  rw [get j hj bm] at gp
  exact gp
 have zZ:∀j,j<h.length→eW (h.set i .dead++[o]) j→eW h j∧j≠i:=by
  intro j hj gp
  have bm:j≠i:=by
   intro e
   subst e
   obtain ⟨o',h1,h2⟩:=gp
   rw [Qz] at h1
   cases h1
   exact h2 rfl
  refine ⟨?_,bm⟩
  unfold eW at gp⊢
  rw [get j hj bm] at gp
  exact gp
 constructor
 ·constructor
  ·intro j s hj
   unfold aI.add at hj
   split at hj
   ·rename_i e
    subst e
    cases hj
    exact ⟨o,by rw [List.getElem?_append_right (by simp)];simp,ho⟩
   ·by_cases e:j=i
    ·subst e
     exact ⟨.dead,Qz,trivial⟩
    ·obtain ⟨o',dN,hr⟩:=H.obj j s hj
     refine ⟨o',by rw [get j (H.lt hj) e];exact dN,?_⟩
     by_cases xZ:o'=.dead
     ·subst xZ;trivial
     ·refine hr.mono hle (sb.other _ ?_)
      intro hb
      exact e (H.inj i j r s hi hj hb.symm hm ⟨o',dN,xZ⟩).symm
  ·intro j k s t hj hk b7 gp hl
   unfold aI.add at hj hk
   split at hj <;> split at hk
   ·omega
   ·cases hj
    obtain ⟨h1,h2⟩:=zZ k (H.lt hk) hl
    exact absurd (H.inj i k r t hi hk b7 hm h1).symm h2
   ·cases hk
    obtain ⟨h1,h2⟩:=jr j (H.lt hj) gp
    exact absurd (H.inj j i s r hj hi b7 h1 hm.live) h2
   ·exact H.inj j k s t hj hk b7 (jr j (H.lt hj) gp).1 (zZ k (H.lt hk) hl).1
  ·intro j s hj
   unfold aI.add at hj
   split at hj
   ·cases hj;exact H.aV i r hi
   ·exact H.aV j s hj
 ·exact {
   ext:=hle
   len:=by simp
   jN:=fun j s hj=>H.lt hj
   kinds:=fun j hj gp=>(jr j hj gp).1
   fresh:=by
    intro j s hj hn
    unfold aI.add at hj
    split at hj
    ·rename_i e;cases hj;exact ⟨by omega,.inr ⟨i,r,hi,rfl,hm⟩⟩
    ·rw [hn] at hj;cases hj
   iX:=by rw [sb.size];exact le_refl _
   iC:=fun k _ dB=>sb.other k fun e=>dB i r hi e.symm hm
   os:=sb.os
   tape:=sb.tape
   output:=sb.output }
end
section
inductive pC where
 | load (agg:Bool) (n:Nat) (a:Operand)
 | ze (x:Operand)
 | lookup (ok:Bool) (zero:Value) (m k:Operand)
 | JZ (kd:IntKind) (ok:Bool) (zero:Value) (m k:Operand)
 | JY (g:fM) (ok:Bool) (zero:Value) (m k:Operand)
 | entry (it:Operand)
 | obj (x:Operand)
inductive mT where
 | alloc (e:TypeId) (zs:List Value)
 | nM (e:TypeId) (n:Nat) (zs:List Value) (parts:List (Nat×Nat×Operand))
 | make (e:TypeId) (bytes:Nat) (zs:List Value) (l c:Operand)
 | ph (g:fM)
inductive pB where
 | fl (a:mT)
 | store (n:Nat) (a v:Operand)
 | box (e:TypeId) (x:Operand)
 | alloc (e:TypeId) (zs:List Value)
 | nM (e:TypeId) (n:Nat) (zs:List Value) (parts:List (Nat×Nat×Operand))
 | make (e:TypeId) (bytes:Nat) (zs:List Value) (l c:Operand)
 | app (e:TypeId) (aV bytes:Nat) (s x:Operand)
 | mkMap
 | J8 (kd:IntKind)
 | ph (g:fM)
 | SY (g:fM) (m k v:Operand)
 | DW (g:fM) (m k:Operand)
 | Vk (x:Operand)
 | next (it:Operand)
 | die
 | SZ (kd:IntKind) (m k v:Operand)
 | SX (m k v:Operand)
 | copy (d s:Operand)
def aR (h:ae) (i:Nat):Option (List Value):=
 match h[i]? with
 | some (.ro _ xs)=>some xs
 | some (.arr _ xs)=>some xs
 | _=>none
def af (agg:Bool) (n:Nat) (h:ae) (a:Value):Option Value:=
 match a with
 | .pointer (some ⟨i,o,none⟩)=>(aR h i).bind fun xs=>cm agg o n xs
 | _=>none
def DD:Value→Option UInt8
 | .int .u8 n=>some (UInt8.ofNat n.toNat)
 | _=>none
def j8 (h:ae) (aV:Nat) (x:Value):Option (List Value):=
 match x with
 | .slice none 0 0=>some []
 | .slice (some ⟨i,o,some _⟩) n _=>
  if n=0 then some [] else (aR h i).bind fun xs=>if o+n*aV≤xs.length then some ((xs.drop o).take (n*aV)) else none
 | _=>none
def se (h:ae) (x:Value):Option Value:=(j8 h 1 x).bind fun cs=>(cs.mapM DD).map S
def vW (k:ByteArray):List (ByteArray×Value)→Option Value
 | []=>none
 | (k',v)::es=>if k=k' then some v else vW k es
def tS (k:ByteArray) (v:Value):List (ByteArray×Value)→List (ByteArray×Value)
 | []=>[(k,v)]
 | (k',v')::es=>if k=k' then (k',v)::es else (k',v')::tS k v es
def gK (k:Int):List (Int×Value)→Option Value
 | []=>none
 | (k',v)::es=>if k=k' then some v else gK k es
def oH (k:Int) (v:Value):List (Int×Value)→List (Int×Value)
 | []=>[(k,v)]
 | (k',v')::es=>if k=k' then (k',v)::es else (k',v')::oH k v es
def sg (kd:IntKind) (ok:Bool) (zero:Value) (h:ae) (m k:Value):Option Value:=
 match m,k with
 | .map (some i),.int Cw k=>
  match h[i]? with
  | some (.eP nK es)=>if Cw=kd∧nK=kd then some (if ok then .tuple #[(gK k es).getD zero,.bool (gK k es).isSome] else (gK k es).getD zero) else none
  | _=>none
 | _,_=>none
def yu:Value→Value→Bool
 | .int k a,.int k' b=>decide (k=k')&&decide (a=b)
 | _,_=>false
def uS:List Value→List Value→Bool
 | [],[]=>true
 | a::vO,b::bs=>yu a b&&uS vO bs
 | _,_=>false
def mZ:Value→Value→Bool
 | .string a,.string b=>decide (bytes a=bytes b)
 | .agg vO,.agg bs=>uS vO.toList bs.toList
 | a,b=>yu a b
def mi (k:Value):List (Nat×Value×Value)→Option Nat
 | []=>none
 | (_,k',_)::es=>if mZ k k'=true then some 0 else (mi k es).map (·+1)
def rJ (k:Value) (es:List (Nat×Value×Value)):Option Value:=(mi k es).bind fun j=>(es[j]?).map fun e=>e.2.2
def mj (c:Nat) (k v:Value) (es:List (Nat×Value×Value)):List (Nat×Value×Value):=
 match mi k es with
 | some j=>es.modify j fun e=>(e.1,k,v)
 | none=>es++[(c,k,v)]
def oS (c:Nat) (k:Value) (es:List (Nat×Value×Value)):Nat:=match mi k es with | some _=>c | none=>c+1
def rH (k:Value) (es:List (Nat×Value×Value)):List (Nat×Value×Value):=
 match mi k es with
 | some j=>es.eraseIdx j
 | none=>es
def Ar (g:fM) (ok:Bool) (zero:Value) (h:ae) (m k:Value):Option Value:=
 match m with
 | .map (some i)=>
  match h[i]? with
  | some (.df g' _ es)=>if g'=g∧fe g k=true then some (if ok then .tuple #[(rJ k es).getD zero,.bool (rJ k es).isSome] else (rJ k es).getD zero) else none
  | _=>none
 | _=>none
def Cr (g:fM) (h:ae) (m k v:Value):Option ae:=
 match m with
 | .map (some i)=>
  match h[i]? with
  | some (.df g' c es)=>if g'=g∧fe g k=true∧fP v=true then some (h.set i (.df g (oS c k es) (mj c k v es))) else none
  | _=>none
 | _=>none
def EU (g:fM) (h:ae) (m k:Value):Option ae:=
 match m with
 | .map (some i)=>
  match h[i]? with
  | some (.df g' c es)=>if g'=g∧fe g k=true then some (h.set i (.df g c (rH k es))) else none
  | _=>none
 | _=>none
def Cs (h:ae) (x:Value):Option (Value×ae):=
 match x with
 | .map (some i)=>
  match h[i]? with
  | some (.df _ c _)=>some (.pointer (some ⟨h.length,0,none⟩),h++[.iter i c [] c])
  | _=>none
 | _=>none
def Ap (h:ae) (it:Value):Option Value:=
 match it with
 | .pointer (some ⟨j,0,none⟩)=>
  match h[j]? with
  | some (.iter i _ seen last)=>
   match h[i]?,seen.getLast? with
   | some (.df _ c es),some b=>if c=last then (es.find? fun e=>e.1==b).map fun e=>.tuple #[e.2.1,e.2.2] else none
   | _,_=>none
  | _=>none
 | _=>none
def Fi:Value→Bool
 | .bool _ | .int .. | .string _ | .nilFunc | .nilIface=>true
 | .pointer none | .map none=>true
 | .slice none 0 0=>true
 | _=>false
def Ee:fM→Value
 | .int k=>.int k 0
 | .str=>.bool true
 | .ints n k=>.agg #[.int k n]
def nN (i:Nat) (x:Value):Bool:=
 Fi x||(match x with | .slice (some ⟨k,_,_⟩) _ _=>decide (k<i) | _=>false)
@[simp] theorem aGv (i : Nat) (k : IntKind) (z : Int) : nN i (.int k z) = true := rfl
@[simp] theorem aGu (i : Nat) (b : Bool) : nN i (.bool b) = true := rfl
@[simp] theorem aGx (i : Nat) (s) : nN i (.string s) = true := rfl
@[simp] theorem aGw (i : Nat) : nN i (.slice none 0 0) = true := rfl
def oT (i:Nat):ak→Option Value
 | .arr e xs=>if xs.all (nN i) then some (.agg (.int .i64 e::xs).toArray) else none
 | .df g c es=>if c=0∧es.isEmpty=true then some (.tuple #[Ee g]) else none
 | _=>none
def At:Value→Option Nat
 | .pointer (some ⟨i,_,none⟩)=>some i
 | .slice (some ⟨i,_,_⟩) _ _=>some i
 | .map (some i)=>some i
 | _=>none
def er (h:ae) (x:Value):Option Value:=(At x).bind fun i=>(h[i]?).bind (oT i)
def AO (h:ae) (it:Value):Option (List (Value×ae)):=
 match it with
 | .pointer (some ⟨j,0,none⟩)=>
  match h[j]? with
  | some (.iter i kE seen last)=>
   match h[i]? with
   | some (.df _ c es)=>
    if (!seen.isEmpty&& !es.isEmpty&&es.all fun e=>decide (last≤e.1))=true then none else
    let left:=es.filter fun e=> !seen.contains e.1
    let old:=left.filter fun e=>decide (e.1<kE)
    let new:=left.filter fun e=>decide (kE≤e.1)
    some ((if old.isEmpty=true then [(.tuple #[.bool false],h)] else [])++(old++new).map fun e=>(.tuple #[.bool true,e.2.1,e.2.2],h.set j (.iter i kE (seen++[e.1]) c)))
   | _=>none
  | _=>none
 | _=>none
def JG (ok:Bool) (zero:Value) (h:ae) (m k:Value):Option Value:=
 match m,k with
 | .map (some i),.string k=>
  match h[i]? with
  | some (.smap es)=>some (if ok then .tuple #[(vW k es).getD zero,.bool (vW k es).isSome] else (vW k es).getD zero)
  | _=>none
 | _,_=>none
def fD (o:pC) (g:Operand→Value) (h:ae):Option Value:=
 match o with
 | .load agg n a=>af agg n h (g a)
 | .ze x=>se h (g x)
 | .lookup ok zero m k=>JG ok zero h (g m) (g k)
 | .JZ kd ok zero m k=>sg kd ok zero h (g m) (g k)
 | .JY kd ok zero m k=>Ar kd ok zero h (g m) (g k)
 | .entry it=>Ap h (g it)
 | .obj x=>er h (g x)
def qU (n:Nat) (h:ae) (a v:Value):Option ae:=
 match a with
 | .pointer (some ⟨i,o,none⟩)=>
  match h[i]? with
  | some (.arr e xs)=>if fP v∧(cR v).length=n∧o+n≤xs.length then some (h.set i (.arr e (setAt xs o (cR v)))) else none
  | _=>none
 | _=>none
def CC (h:ae):Value:=.pointer (some ⟨h.length,0,none⟩)
def sl (e:TypeId) (i o n:Nat):Value:=.slice (some ⟨i,o,some e⟩) n n
def bC (e:TypeId) (h:ae) (x:Value):Option (Value×ae):=if fP x then some (CC h,h++[.arr e (cR x)]) else none
def gy (zs:List Value) (n:Nat):List Value:=(List.replicate n zs).flatten
def cZ (e:TypeId) (n:Nat) (zs:List Value) (h:ae) (ps:List (Nat×Nat×Value)):Option (Value×ae):=
 (qw (gy zs n) ps).map fun cs=>(sl e h.length 0 n,h++[.arr e cs])
def lE (e:TypeId) (bytes:Nat) (zs:List Value) (h:ae) (l c:Value):Option (Value×ae):=
 match l,c with
 | .int _ l,.int _ c=>if 0≤l∧l≤c∧(bytes:Int)*c≤281474976710656∧c≤9223372036854775807 then some (sl e h.length 0 l.toNat,h++[.arr e (gy zs l.toNat)]) else none
 | _,_=>none
def pe:Value→Option Nat
 | .slice none 0 0=>some 0
 | .slice (some _) n _=>some n
 | _=>none
def dI (e:TypeId) (aV bytes:Nat) (h:ae) (s x:Value):Option (Value×ae):=
 match j8 h aV x,pe x with
 | some news,some m=>
  match s with
  | .slice none 0 0=>
   if m=0 then some (s,h) else
   if m*bytes≤140737488355328∧m≤maxLen then some (sl e h.length 0 m,h++[.arr e news]) else none
  | .slice (some ⟨i,0,some e'⟩) n _=>
   match h[i]? with
   | some (.arr e'' xs)=>
    if e'=e∧e''=e∧xs.length=n*aV∧(n+m)*bytes≤140737488355328∧n+m≤maxLen then
     if m=0 then some (s,h) else some (sl e h.length 0 (n+m),h.set i .dead++[.arr e (xs++news)])
    else none
   | _=>none
  | _=>none
 | _,_=>none
def Sf (h:ae) (m k v:Value):Option ae:=
 match m,k with
 | .map (some i),.string k=>
  match h[i]? with
  | some (.smap es)=>some (h.set i (.smap (tS k v es)))
  | _=>none
 | _,_=>none
def EW (kd:IntKind) (h:ae) (m k v:Value):Option ae:=
 match m,k with
 | .map (some i),.int Cw k=>
  match h[i]? with
  | some (.eP nK es)=>if Cw=kd∧nK=kd then some (h.set i (.eP kd (oH k v es))) else none
  | _=>none
 | _,_=>none
def Fl (kd:IntKind) (h:ae) (m k v:Value):Option (Value×ae):=(EW kd h m k v).map fun h'=>(undef,h')
def CE (kd:fM) (h:ae) (m k v:Value):Option (Value×ae):=(Cr kd h m k v).map fun h'=>(undef,h')
def Tb (kd:fM) (h:ae) (m k:Value):Option (Value×ae):=(EU kd h m k).map fun h'=>(.tuple #[],h')
def JH (kd:fM) (h:ae):Option (Value×ae):=some (.map (some h.length),h++[.df kd 0 []])
def afi (kd:IntKind) (h:ae):Option (Value×ae):=some (.map (some h.length),h++[.eP kd []])
def aK (n:Nat) (h:ae) (a v:Value):Option (Value×ae):=(qU n h a v).map fun h'=>(undef,h')
def ba (e:TypeId) (zs:List Value) (h:ae):Option (Value×ae):=some (CC h,h++[.arr e zs])
def Sc (h:ae) (d s:Value):Option (Value×ae):=
 match pe d,pe s,j8 h 1 s with
 | some n,some m,some cs=>
  if Nat.min m n=0 then some (.int .i64 0,h) else
  match d with
  | .slice (some ⟨i,o,some _⟩) _ _=>
   match h[i]? with
   | some (.arr e xs)=>if o+Nat.min m n≤xs.length then some (.int .i64 (Nat.min m n:Nat),h.set i (.arr e (setAt xs o (cs.take (Nat.min m n))))) else none
   | _=>none
  | _=>none
 | _,_,_=>none
def fY (o:pB) (g:Operand→Value) (h:ae):Option (Value×ae):=
 match o with
 | .fl a=>match a with
  | .alloc e zs=>some (CC h,h++[.arr e zs])
  | .nM e n zs ps=>cZ e n zs h (ps.map fun (o,s,x)=>(o,s,g x))
  | .make e bytes zs l c=>lE e bytes zs h (g l) (g c)
  | .ph kd=>some (.map (some h.length),h++[.df kd 0 []])
 | .store n a v=>(qU n h (g a) (g v)).map fun h'=>(undef,h')
 | .box e x=>bC e h (g x)
 | .alloc e zs=>some (CC h,h++[.arr e zs])
 | .nM e n zs ps=>cZ e n zs h (ps.map fun (o,s,x)=>(o,s,g x))
 | .make e bytes zs l c=>lE e bytes zs h (g l) (g c)
 | .app e aV bytes s x=>dI e aV bytes h (g s) (g x)
 | .mkMap=>some (.map (some h.length),h++[.smap []])
 | .SX m k v=>(Sf h (g m) (g k) (g v)).map fun h'=>(undef,h')
 | .J8 kd=>some (.map (some h.length),h++[.eP kd []])
 | .die=>none
 | .next _=>none
 | .ph kd=>some (.map (some h.length),h++[.df kd 0 []])
 | .SY kd m k v=>(Cr kd h (g m) (g k) (g v)).map fun h'=>(undef,h')
 | .DW kd m k=>(EU kd h (g m) (g k)).map fun h'=>(.tuple #[],h')
 | .Vk x=>Cs h (g x)
 | .SZ kd m k v=>(EW kd h (g m) (g k) (g v)).map fun h'=>(undef,h')
 | .copy d s=>Sc h (g d) (g s)
def mT.FW:mT→pB
 | .alloc e zs=>.alloc e zs
 | .nM e n zs ps=>.nM e n zs ps
 | .make e b zs l c=>.make e b zs l c
 | .ph g=>.ph g
def pB.LH:pB→Option mT
 | .alloc e zs=>some (.alloc e zs)
 | .nM e n zs ps=>some (.nM e n zs ps)
 | .make e b zs l c=>some (.make e b zs l c)
 | .ph g=>some (.ph g)
 | _=>none
def lN (a:mT) (g:Operand→Value):Option ((Nat→Value)×ak):=
 match a with
 | .alloc e zs=>some (fun i=>.pointer (some ⟨i,0,none⟩),.arr e zs)
 | .nM e n zs ps=>(qw (gy zs n) (ps.map fun (o,s,x)=>(o,s,g x))).map fun cs=>(fun i=>sl e i 0 n,.arr e cs)
 | .make e bytes zs l c=>
  match g l,g c with
  | .int _ l,.int _ c=>if 0≤l∧l≤c∧(bytes:Int)*c≤281474976710656∧c≤9223372036854775807 then some (fun i=>sl e i 0 l.toNat,.arr e (gy zs l.toNat)) else none
  | _,_=>none
 | .ph g=>some (fun i=>.map (some i),.df g 0 [])
theorem afp (a:mT) (g:Operand→Value) (h:ae):fY (.fl a) g h=(lN a g).map fun p=>(p.1 h.length,h++[p.2]):=by
 cases a with
 | alloc e zs=>rfl
 | nM e n zs ps=>simp only [fY,lN,cZ,Option.map_map];rfl
 | make e b zs l c=>
  simp only [fY,lN,lE]
  split
  ·split <;> rfl
  ·rfl
 | ph g=>rfl
theorem ayk (a:mT) (g:Operand→Value) (h:ae):fY a.FW g h=fY (.fl a) g h:=by cases a <;> rfl
theorem ane {e:pB} {a:mT} (h:e.LH=some a):a.FW=e:=by
 cases e <;> simp [pB.LH] at h <;> subst h <;> rfl
theorem OK {a:mT} {g:Operand→Value} {V:Nat→Value} {o:ak} (h:lN a g=some (V,o)):∀i,At (V i)=some i:=by
 cases a with
 | ph g=>simp [lN] at h;obtain ⟨rfl,_⟩:=h;intro i;rfl
 | alloc e zs=>simp [lN] at h;obtain ⟨rfl,_⟩:=h;intro i;rfl
 | nM e n zs ps=>simp only [lN,map_eq_some_iff,Prod.mk.injEq] at h;obtain ⟨_,_,rfl,_⟩:=h;intro i;rfl
 | make e b zs l c=>
  simp only [lN] at h
  split at h
  ·split at h
   ·simp at h;obtain ⟨rfl,_⟩:=h;intro i;rfl
   ·cases h
  ·cases h
def Dc (P:Program) (t:TypeId):Option Value:=
 match P.info? t with
 | some i=>match i.zero with
  | some z=>if BI z then some z else none
  | none=>none
 | none=>none
def isString (P:Program) (t:TypeId):Bool:=match P.underlying t with | some .string=>true | _=>false
def Ay (P:Program) (t:TypeId):Option IntKind:=match P.underlying t with | some (.int k)=>some k | _=>none
def Bh:Value→Bool
 | .agg cs=>cs.toList.all BI
 | v=>mA v
def L9 (P:Program) (t:TypeId):Option Value:=
 match P.info? t with
 | some i=>match i.zero with
  | some z=>if Bh z then some z else none
  | none=>none
 | none=>none
def rL (P:Program) (t:TypeId):Option fM:=
 match P.underlying t with
 | some (.map kt et)=>
  match P.underlying et with
  | some (.int _)=>none
  | _=>
   match P.underlying kt with
   | some .string=>some .str
   | some (.int k)=>some (.int k)
   | some (.array n e)=>
    match P.underlying e with
    | some (.int k)=>if (P.cellsOf e==1&&P.cellsOf kt==n&& !(P.types.size==0))=true then some (.ints n k) else none
    | _=>none
   | _=>none
 | _=>none
def vQ (P:Program):Op→Option pC
 | .load t a=>
  match P.underlying t with
  | some d=>if iS P t&&(oE d||P.cellsOf t==1) then some (.load (oE d) (P.cellsOf t) a) else none
  | none=>none
 | .entry it=>some (.entry it)
 | .convert s d x=>
  match P.underlying s,P.underlying d with
  | some (.slice e),some .string=>match P.underlying e with | some (.int .u8)=>some (.ze x) | _=>none
  | _,_=>none
 | .lookup t m k ok=>
  match rL P t with
  | some g=>match P.underlying t with
   | some (.map _ et)=>(L9 P et).map fun z=>.JY g ok z m k
   | _=>none
  | none=>
  match P.underlying t with
  | some (.map kt et)=>if isString P kt then (Dc P et).map fun z=>.lookup ok z m k else (Ay P kt).bind fun kd=>(Dc P et).map fun z=>.JZ kd ok z m k
  | _=>none
 | _=>none
def iN (P:Program):Op→Option pB
 | .store t a v=>if iS P t then some (.store (P.cellsOf t) a v) else none
 | .box e x=>some (.box e x)
 | .alloc e=>(zeroOf P e).map fun zs=>.alloc e zs
 | .buildSlice t n ps=>
  match P.underlying t with
  | some (.slice e)=>
   match zeroOf P e with
   | some zs=>if n*P.cellsOf e≤16777216∧P.cellsOf e≠0 then some (.nM e n zs (ps.toList.map fun (i,x)=>(i*P.cellsOf e,P.cellsOf e,x))) else none
   | none=>none
  | _=>none
 | .makeSlice t l c=>
  match P.underlying t with
  | some (.slice e)=>
   match zeroOf P e with
   | some zs=>some (.make e (P.bytesOf e) zs l c)
   | none=>none
  | _=>none
 | .call { callee:=.builtin .append,args,argTypes }=>
  match args.toList,argTypes.toList with
  | [s,x],[t,t']=>
   if t=t' then
    match P.underlying t with
    | some (.slice e)=>
     match zeroOf P e with
     | some _=>some (.app e (P.cellsOf e) (P.bytesOf e) s x)
     | none=>none
    | _=>none
   else none
  | _,_=>none
 | .makeMap t none=>
  match rL P t with
  | some g=>some (.ph g)
  | none=>
  match P.underlying t with
  | some (.map kt _)=>some (match Ay P kt with | some kd=>.J8 kd | none=>.mkMap)
  | _=>some .mkMap
 | .mapUpdate t m k v | .insert t m k v=>
  match rL P t with
  | some g=>some (.SY g m k v)
  | none=>
  match P.underlying t with
  | some (.map kt _)=>if isString P kt then some (.SX m k v) else (Ay P kt).map fun kd=>.SZ kd m k v
  | _=>none
 | .call { callee:=.builtin .delete,args,argTypes }=>
  match args.toList,argTypes[0]? with
  | [m,k],some t=>(rL P t).map fun g=>.DW g m k
  | _,_=>none
 | .call { callee:=.builtin .copy,args,argTypes }=>
  match args.toList,argTypes.toList with
  | [d,s],[t,_]=>
   match P.underlying t with
   | some (.slice e)=>if (P.info? e).map (·.size)=some 1 then some (.copy d s) else none
   | _=>none
  | _,_=>none
 | .range t x=>(rL P t).map fun _=>.Vk x
 | .next it false=>some (.next it)
 | .panic _ | .makeInterface .. =>some .die
 | _=>none
end
section
theorem aEH {ρ:aI} {i o n:Nat} {e:TypeId} {y:Value} (h:ay ρ (.slice (some ⟨i,o,some e⟩) n n) y):
  ∃r o' c',ρ i=some r∧r.elem=e∧y=.slice (some ⟨r.bu,o',none⟩) n c'∧(o'=r.sh+o∨(n=0∧0<o∧c'=0))∧n≤c'∧c'≤maxLen∧o'+c'*r.aV≤r.size:=by
 cases h with
 | slice hr a b c d=>exact ⟨_,_,_,hr,rfl,rfl,a,b,c,d⟩
theorem ay.down {ρ av:aI} (hle:ρ.le av) {x y0:Value} (h0:ay ρ x y0):∀{y:Value},ay av x y→ay ρ x y:=by
 have same:∀{i:Nat} {r r':RI},ρ i=some r→av i=some r'→r'=r:=fun h h'=>by rw [hle _ _ h] at h';cases h';rfl
 induction h0 with
 | bool b=>intro y h;cases h;exact .bool b
 | int k n=>intro y h;cases h;exact .int k n
 | string s=>intro y h;cases h;exact .string s
 | ve=>intro y h;cases h;exact .ve
 | q7=>intro y h;cases h;exact .q7
 | u9=>intro y h;cases h;exact .u9
 | nilFunc=>intro y h;cases h;exact .nilFunc
 | nilIface=>intro y h;cases h;exact .nilIface
 | ptr hi=>intro y h;cases h with | ptr iE=>cases same hi iE;exact .ptr hi
 | slice hi a b c d=>
  intro y h
  obtain ⟨r',o',c',h1,h2,rfl,h3,h4,h5,h6⟩:=aEH h
  cases same hi h1
  exact .slice hi h3 h4 h5 h6
 | void a=>intro y h;cases h;exact .void _
 | map hi=>intro y h;cases h with | map iE=>cases same hi iE;exact .map hi
 | yield hi=>intro y h;cases h with | yield iE=>cases same hi iE;exact .yield hi
 | func f s1 s2 _ _ Au Cu=>
  intro y h
  cases h with
  | func _ t1 t2 q1 q2=>
   refine .func f t1 t2 (fun k x x' e e'=>?_) (fun k x x' e e'=>?_)
   ·obtain ⟨z,hz⟩:∃z,_=some z:=⟨_,getElem?_eq_getElem (by rw [←s1];exact (Array.getElem?_eq_some_iff.1 e).1)⟩
    exact Au k x z e hz (q1 k x x' e e')
   ·obtain ⟨z,hz⟩:∃z,_=some z:=⟨_,getElem?_eq_getElem (by rw [←s2];exact (Array.getElem?_eq_some_iff.1 e).1)⟩
    exact Cu k x z e hz (q2 k x x' e e')
 | agg s1 hc _ ih=>
  intro y h
  cases h with
  | agg t1 _ q1=>
   refine .agg t1 hc (fun k x x' e e'=>?_)
   obtain ⟨z,hz⟩:∃z,_=some z:=⟨_,getElem?_eq_getElem (by rw [←s1];exact (Array.getElem?_eq_some_iff.1 e).1)⟩
   exact ih k x z e hz (q1 k x x' e e')
 | any v=>intro y _;exact .any y
 | tuple s1 _ ih=>
  intro y h
  cases h with
  | tuple t1 q1=>
   refine .tuple t1 (fun k x x' e e'=>?_)
   obtain ⟨z,hz⟩:∃z,_=some z:=⟨_,getElem?_eq_getElem (by rw [←s1];exact (Array.getElem?_eq_some_iff.1 e).1)⟩
   exact ih k x z e hz (q1 k x x' e e')
theorem fS.down {ρ av:aI} (hle:ρ.le av) {c c':Array Value} {sh sh':Nat} {xs:List Value} (h0:fS ρ c sh xs) (h:fS av c' sh' xs):fS ρ c' sh' xs:=by
 intro j x hj
 obtain ⟨_,y0,_,r0⟩:=h0 j x hj
 obtain ⟨c1,y,hy,r⟩:=h j x hj
 exact ⟨c1,y,hy,r0.down hle r⟩
theorem lJ.down {ρ av:aI} (hle:ρ.le av) {w w':World} {r:RI} {o:ak} (h0:lJ ρ w r o) (h:lJ av w' r o):lJ ρ w' r o:=by
 cases o with
 | ro e xs=>
  obtain ⟨_,_,_,_,_,_,b4⟩:=h0
  obtain ⟨a1,c,t,fr,a2,a3,a4⟩:=h
  exact ⟨a1,c,t,fr,a2,a3,b4.down hle a4⟩
 | arr e xs=>
  obtain ⟨_,_,_,_,_,b4⟩:=h0
  obtain ⟨a1,a0,c,a2,a3,a4⟩:=h
  exact ⟨a1,a0,c,a2,a3,b4.down hle a4⟩
 | smap es=>
  obtain ⟨_,_,_,_,b3⟩:=h0
  obtain ⟨aH,clock,a1,a2,a3⟩:=h
  refine ⟨aH,clock,a1,a2,fun j k v hj=>?_⟩
  obtain ⟨_,_,_,r0⟩:=b3 j k v hj
  obtain ⟨en,e1,e2,e3⟩:=a3 j k v hj
  exact ⟨en,e1,e2,r0.down hle e3⟩
 | eP kd es=>
  obtain ⟨_,_,_,_,b3⟩:=h0
  obtain ⟨aH,clock,a1,a2,a3⟩:=h
  refine ⟨aH,clock,a1,a2,fun j k v hj=>?_⟩
  obtain ⟨_,_,_,r0⟩:=b3 j k v hj
  obtain ⟨en,e1,e2,e3⟩:=a3 j k v hj
  exact ⟨en,e1,e2,r0.down hle e3⟩
 | df g c es=>
  obtain ⟨_,_,_,_,b3⟩:=h0
  obtain ⟨a0,aH,a1,a2,a3⟩:=h
  refine ⟨a0,aH,a1,a2,fun j b k v hj=>?_⟩
  obtain ⟨_,_,_,_,_,r0⟩:=b3 j b k v hj
  obtain ⟨e0,en,e1,e2,zt,e3⟩:=a3 j b k v hj
  exact ⟨e0,en,e1,e2,zt,r0.down hle e3⟩
 | iter m s n l=>
  obtain ⟨_,rm0,b1,_⟩:=h0
  obtain ⟨a0,rm,a1,a2⟩:=h
  have:=hle _ _ b1
  rw [a1] at this
  cases this
  exact ⟨a0,rm0,b1,a2⟩
 | loop c ls vs=>
  obtain ⟨_,_,_,_,_,_,_,_,b8⟩:=h0
  obtain ⟨rec,a1,a2,a3,a4,a5,a6,a7,a8⟩:=h
  exact ⟨rec,a1,a2,a3,a4,a5,a6,a7,fun t=>(b8 t).down hle (a8 t)⟩
 | dead=>trivial
theorem Fi.rel {ρ av:aI} {v v':Value} (h:Fi v=true) (hv:ay ρ v v'):ay av v v':=by
 unfold Fi at h
 split at h
 ·cases hv;exact .bool _
 ·cases hv;exact .int _ _
 ·cases hv;exact .string _
 ·cases hv;exact .nilFunc
 ·cases hv;exact .nilIface
 ·cases hv;exact .ve
 ·cases hv;exact .u9
 ·cases hv;exact .q7
 ·cases h
theorem aX.IQ {P:Program} {ρ:aI} {h:ae} {w:World} (H:aX P ρ h w) (os:ae):aX P ρ (h++os) w where
 obj i r hi:=by
  obtain ⟨o,ho,hr⟩:=H.obj i r hi
  exact ⟨o,by rw [getElem?_append_left (H.lt hi)];exact ho,hr⟩
 inj i j r s hi hj hb hm hl:=by
  refine H.inj i j r s hi hj hb ?_ ?_
  ·unfold cC at hm⊢;rw [getElem?_append_left (H.lt hi)] at hm;exact hm
  ·unfold eW at hl⊢;rw [getElem?_append_left (H.lt hj)] at hl;exact hl
 aV:=H.aV
theorem Tr.IQ {P:Program} {ρ:aI} {h:ae} {w:World} (H:aX P ρ h w) (os:ae):Tr ρ h w ρ (h++os) w where
 ext:=.refl _
 len:=by simp
 jN:=fun _ _ hi=>H.lt hi
 kinds:=fun i hi hm=>by unfold cC at hm⊢;rw [getElem?_append_left hi] at hm;exact hm
 fresh:=fun i r h1 h2=>by rw [h1] at h2;cases h2
 iX:=le_refl _
 iC:=fun _ _ _=>rfl
 os:=rfl
 tape:=rfl
 output:=rfl
theorem ayl {lo:pC} {g:Operand→Value} {h:ae} {v:Value} (os:ae) (hl:fD lo g h=some v):fD lo g (h++os)=some v:=by
 have get:∀{i:Nat} {o:ak},h[i]?=some o→(h++os)[i]?=some o:=by
  intro i o hi
  rw [getElem?_append_left (bL hi).1];exact hi
 have cells:∀{i:Nat} {xs:List Value},aR h i=some xs→aR (h++os) i=some xs:=by
  intro i xs hc
  unfold aR at hc⊢
  split at hc
  ·rename_i e ys hq;rw [get hq];exact hc
  ·rename_i e ys hq;rw [get hq];exact hc
  ·cases hc
 cases lo with
 | load agg n a=>
  simp only [fD,af] at hl⊢
  split at hl
  ·rename_i i o _
   cases hc:aR h i with
   | none=>rw [hc] at hl;cases hl
   | some xs=>rw [hc] at hl;rw [cells hc];exact hl
  ·cases hl
 | ze x=>
  have sc:∀{cs:List Value},j8 h 1 (g x)=some cs→j8 (h++os) 1 (g x)=some cs:=by
   intro cs hc
   unfold j8 at hc⊢
   split at hc
   ·exact hc
   ·rename_i i o e n c hx
    split at hc
    ·rename_i h0;rw [if_pos h0];exact hc
    ·rename_i h0
     rw [if_neg h0]
     cases zL:aR h i with
     | none=>rw [zL] at hc;cases hc
     | some xs=>rw [zL] at hc;rw [cells zL];exact hc
   ·cases hc
  simp only [fD,se] at hl⊢
  cases hc:j8 h 1 (g x) with
  | none=>rw [hc] at hl;cases hl
  | some cs=>rw [hc] at hl;rw [sc hc];exact hl
 | lookup ok z m k=>
  simp only [fD,JG] at hl⊢
  split at hl
  ·rename_i i key hm hk
   split at hl
   ·rename_i es he;rw [get he];exact hl
   ·cases hl
  ·cases hl
 | JZ kd ok z m k=>
  simp only [fD,sg] at hl⊢
  split at hl
  ·rename_i i Cw key hm hk
   split at hl
   ·rename_i nK es he;rw [get he];exact hl
   ·cases hl
  ·cases hl
 | JY gk ok z m k=>
  simp only [fD,Ar] at hl⊢
  split at hl
  ·rename_i i hm
   split at hl
   ·rename_i g' c es he;rw [get he];exact hl
   ·cases hl
  ·cases hl
 | entry it=>
  simp only [fD,Ap] at hl⊢
  split at hl
  ·rename_i j hj
   split at hl
   ·rename_i i si seen last tf
    rw [get tf]
    simp only
    split at hl
    ·rename_i gg c es b jq hb
     rw [get jq,hb]
     exact hl
    ·cases hl
   ·cases hl
  ·cases hl
 | obj x=>
  simp only [fD,er] at hl⊢
  cases hx:At (g x) with
  | none=>rw [hx] at hl;cases hl
  | some i=>
   rw [hx] at hl
   simp only [Option.bind_some] at hl⊢
   cases ho:h[i]? with
   | none=>rw [ho] at hl;cases hl
   | some o=>rw [ho] at hl;rw [get ho];exact hl
end
section
section
variable {P : Program} {w : World} {ρ : aI} {h : ae}
theorem aX.cells (H:aX P ρ h w) {i:Nat} {r:RI} {xs:List Value} (hi:ρ i=some r) (hx:aR h i=some xs):
  ∃c t fr,w.heap[r.bu]?=some (.cells c t fr)∧fS ρ c r.sh xs:=by
 obtain ⟨o,ho,hr⟩:=H.obj i r hi
 unfold aR at hx
 rw [ho] at hx
 cases o with
 | ro e ys=>
  simp at hx;subst hx
  obtain ⟨h1,c,t,fr,h2,h3,h4⟩:=hr
  exact ⟨c,t,fr,h2,h4⟩
 | arr e ys=>
  simp at hx;subst hx
  obtain ⟨h1,h0,c,h2,h3,h4⟩:=hr
  subst h1
  exact ⟨c,_,(0,0),h2,by rw [h0];exact h4⟩
 | smap es=>simp at hx
 | eP kd es=>simp at hx
 | df g c es=>simp at hx
 | iter m s n l=>simp at hx
 | loop c ls vs=>simp at hx
 | dead=>simp at hx
theorem fS.Wf {c:Array Value} {sh o n:Nat} {xs:List Value} (hc:fS ρ c sh xs) (hl:o+n≤xs.length):
  ∃ys:List Value,bF ρ ((xs.drop o).take n) ys∧ys.length=n∧(∀x∈(xs.drop o).take n,gN x=true)∧∀j v,ys[j]?=some v→c[sh+o+j]?=some v:=by
 have key:∀j,j<n→∃x y,((xs.drop o).take n)[j]?=some x∧c[sh+o+j]?=some y∧ay ρ x y∧gN x=true:=by
  intro j hj
  have hx:xs[o+j]?=some (xs[o+j]'(by omega)):=List.getElem?_eq_getElem _
  obtain ⟨h1,y,hy,hr⟩:=hc (o+j) _ hx
  refine ⟨_,y,?_,by rw [←hy];congr 1;omega,hr,h1⟩
  rw [List.getElem?_take,if_pos hj,List.getElem?_drop]
  exact hx
 have hlen:((xs.drop o).take n).length=n:=by simp;omega
 refine ⟨(List.range n).map fun j=>c.getD (sh+o+j) Go.undef,?_,by simp,?_,?_⟩
 ·refine bF.Kj (by simp;omega) ?_
  intro k x y hx hy
  have hk:k<n:=by have:=(bL hx).1;omega
  obtain ⟨x',y',h1,h2,h3,_⟩:=key k hk
  rw [h1] at hx;cases hx
  simp [hk] at hy
  subst hy
  simpa [Array.getD,Array.getElem?_eq_some_iff.1 h2 |>.1,(Array.getElem?_eq_some_iff.1 h2).2] using h3
 ·intro x hx
  obtain ⟨k,hk⟩:=List.getElem?_of_mem hx
  have cW:k<n:=by have:=(bL hk).1;omega
  obtain ⟨x',y',h1,h2,h3,h4⟩:=key k cW
  rw [h1] at hk;cases hk
  exact h4
 ·intro j v hv
  by_cases hj:j<n
  ·obtain ⟨x',y',h1,h2,h3,_⟩:=key j hj
   simp [hj] at hv
   rw [h2,←hv]
   simp [Array.getElem?_eq_some_iff.1 h2 |>.1,(Array.getElem?_eq_some_iff.1 h2).2]
  ·simp [hj] at hv
theorem Il {g o:Nat} {c:Array Value} {t:TypeId} {fr:Nat×Nat} (hg:w.heap[g]?=some (.cells c t fr)):w.cell? ⟨g,o,none⟩=c[o]?:=by
 simp [World.cell?,hg]
theorem aEq {g o n:Nat} {c:Array Value} {t:TypeId} {fr:Nat×Nat} {ys:List Value} (hg:w.heap[g]?=some (.cells c t fr)) (hl:ys.length=n) (hy:∀j v,ys[j]?=some v→c[o+j]?=some v):
  (loadCells ⟨g,o,none⟩ n).run P w=.ok ys.toArray w:=by
 subst hl
 exact run_loadCells_list w _ ys fun j v hj=>by rw [Addr.add_lit,Il hg];exact hy j v hj
theorem amC (H:aX P ρ h w) {t:TypeId} {d:TypeDesc} {a a' v:Value} (ht:P.underlying t=some d) (hk:iS P t=true) (hi:af (oE d) (P.cellsOf t) h a=some v) (ha:ay ρ a a'):
  ∃v',(Instr.loadAt t a').run P w=.ok v' w∧ay ρ v v':=by
 unfold af at hi
 split at hi
 ·rename_i i o
  obtain ⟨r,hr,rfl⟩:=ha.FG
  simp only [bind_eq_some_iff] at hi
  obtain ⟨xs,hx,hp⟩:=hi
  obtain ⟨c,_,fr,hb,hc⟩:=H.cells hr hx
  unfold cm at hp
  cases hd:oE d
  ·rw [hd] at hp
   simp at hp
   obtain ⟨h1,y,hy,hv⟩:=hc o v hp
   refine ⟨y,?_,hv⟩
   have:w.cell? ⟨r.bu,r.sh+o,none⟩=some y:=by rw [Il hb,hy]
   simp [Instr.loadAt,Instr.sureAddr,loadVar,Vx w ht,hd,this]
  ·rw [hd] at hp
   simp at hp
   obtain ⟨hl,rfl⟩:=hp
   obtain ⟨ys,h1,h2,h3,h4⟩:=hc.Wf hl
   refine ⟨.agg ys.toArray,?_,.Dx h1 h3⟩
   simp [Instr.loadAt,Instr.sureAddr,loadVar,Vx w ht,hd,rh w hk,aEq (P:=P) hb h2 h4]
 ·cases hi
theorem Lt (H:aX P ρ h w) {aV:Nat} {x x':Value} {cs:List Value} (hs:j8 h aV x=some cs) (hx:ay ρ x x'):
  (x'=.slice none 0 0∧cs=[])∨(∃b o n c',x'=.slice (some ⟨b,o,none⟩) n c'∧pe x=some n∧cs.length=n*aV∧(∀v∈cs,gN v=true)∧
   ∃ys,bF ρ cs ys∧∀j v,ys[j]?=some v→w.cell? ⟨b,o+j,none⟩=some v):=by
 unfold j8 at hs
 split at hs
 ·simp at hs;subst hs
  cases hx
  exact .inl ⟨rfl,rfl⟩
 ·rename_i i o e n c
  cases hx with
  | slice hr ho hn hc hb=>
   rename_i o' c' r
   split at hs
   ·rename_i h0
    simp at hs;subst hs;subst h0
    exact .inr ⟨_,_,_,_,rfl,rfl,by simp,by simp,[],.nil,by simp⟩
   ·rename_i h0
    simp only [bind_eq_some_iff] at hs
    obtain ⟨xs,hx,hl⟩:=hs
    split at hl
    ·rename_i hle
     simp at hl;subst hl
     obtain ⟨c,_,fr,sX,hc⟩:=H.cells hr hx
     obtain ⟨ys,h1,h2,h3,h4⟩:=hc.Wf hle
     have dN:o'=r.sh+o:=by
      rcases ho with ho | ⟨q1,q2,q3⟩
      ·exact ho
      ·omega
     subst dN
     refine .inr ⟨_,_,_,_,rfl,rfl,by simp;omega,h3,ys,h1,?_⟩
     intro j v hj
     rw [Il sX]
     exact h4 j v hj
    ·cases hl
 ·cases hs
theorem agn:∀{cs:List Value} {l:List UInt8},cs.mapM DD=some l→∃ns:List Int,cs=ns.map (Value.int .u8)∧l=ns.map fun n=>UInt8.ofNat n.toNat
 | [],l,h=>by simp at h;subst h;exact ⟨[],rfl,rfl⟩
 | c::cs,l,h=>by
  simp only [List.mapM_cons,Option.bind_eq_bind,bind_eq_some_iff] at h
  obtain ⟨b,hb,bs,iP,h⟩:=h
  simp at h;subst h
  obtain ⟨ns,rfl,rfl⟩:=agn iP
  unfold DD at hb
  split at hb
  ·rename_i n
   simp at hb;subst hb
   exact ⟨n::ns,rfl,rfl⟩
  ·cases hb
theorem bF.ints {ns:List Int} {k:IntKind} {ys:List Value} (h:bF ρ (ns.map (Value.int k)) ys):ys=ns.map (Value.int k):=by
 induction ns generalizing ys with
 | nil=>cases h;rfl
 | cons n ns ih=>
  cases h with
  | cons a b=>rw [a.mK,ih b];rfl
theorem aAu (ns:List Int):∀(s:ByteArray),ns.foldl (fun r n=>r.push (UInt8.ofNat n.toNat)) s=⟨(bytes s++ns.map fun n=>UInt8.ofNat n.toNat).toArray⟩:=by
 induction ns with
 | nil=>intro s;simp [Ff]
 | cons n ns ih=>
  intro s
  rw [List.foldl_cons,ih]
  simp [bytes]
theorem aDX (H:aX P ρ h w) {x x' v:Value} (hi:se h x=some v) (hx:ay ρ x x'):(Conv.bytesToString x').run P w=.ok v w∧ay ρ v v:=by
 unfold se at hi
 simp only [bind_eq_some_iff,map_eq_some_iff] at hi
 obtain ⟨cs,hs,l,hl,rfl⟩:=hi
 refine ⟨?_,ay.S _ _⟩
 obtain ⟨ns,rfl,rfl⟩:=agn hl
 rcases Lt H hs hx with ⟨rfl,h0⟩ | ⟨b,o,n,c',rfl,_,hlen,_,ys,hy,B8⟩
 ·have:ns=[]:=by simpa using h0
  subst this
  simp [Conv.bytesToString,S]
  rfl
 ·have e:=hy.ints
  subst e
  simp at hlen
  have hld:(loadCells ⟨b,o,none⟩ n).run P w=.ok (ns.map (Value.int .u8)).toArray w:=by
   have:=run_loadCells_list (P:=P) w ⟨b,o,none⟩ (ns.map (Value.int .u8)) (fun j v hj=>by rw [Addr.add_lit];exact B8 j v hj)
   simpa [hlen] using this
  rw [run_bytesToString w _ n c' ns hld,aAu]
  rfl
end
end
section
theorem aft {a b:Value} (h:yu a b=true):a=b:=by
 unfold yu at h
 split at h
 ·simp only [and_eq_true,decide_eq_true_eq] at h;rw [h.1,h.2]
 ·cases h
theorem afv:∀{a b:List Value},uS a b=true→a=b
 | [],[],_=>rfl
 | a::vO,b::bs,h=>by
  simp only [uS,and_eq_true] at h
  rw [aft h.1,afv h.2]
 | [],_::_,h=>by cases h
 | _::_,[],h=>by cases h
theorem afw {k:IntKind}:∀{a:List Value},(∀v∈a,kB k v=true)→uS a a=true
 | [],_=>rfl
 | a::vO,h=>by
  simp only [uS,and_eq_true]
  refine ⟨?_,afw fun v hv=>h v (by simp [hv])⟩
  have:=h a (by simp)
  unfold kB at this
  split at this
  ·simp [yu]
  ·cases this
theorem adC {a b:Value} (h:mZ a b=true):a=b:=by
 unfold mZ at h
 split at h
 ·rename_i s t
  simp at h
  have:=Ff s
  rw [h,Ff] at this
  rw [this]
 ·rw [ext' (afv h)]
 ·exact aft h
theorem awD {g:fM} {a:Value} (h:fe g a=true):mZ a a=true:=by
 unfold fe at h
 split at h
 ·unfold kB at h
  split at h
  ·simp [mZ,yu]
  ·cases h
 ·simp [mZ]
 ·simp only [and_eq_true,all_eq_true] at h
  exact afw fun v hv=>(h.2 v hv).1
 ·cases h
theorem awC {g:fM} {a b:Value} (h:fe g a=true):mZ a b=true↔a=b:=⟨adC,fun e=>e ▸ awD h⟩
theorem KW {g:fM} {k:Value} (hk:fe g k=true):∀es:List (Nat×Value×Value),(mi k es=none∧∀e∈es,e.2.1≠k)∨∃j e,mi k es=some j∧es[j]?=some e∧e.2.1=k
 | []=>.inl ⟨rfl,by simp⟩
 | (b,k',v)::es=>by
  simp only [mi]
  by_cases h:mZ k k'=true
  ·rw [if_pos h]
   exact .inr ⟨0,(b,k',v),rfl,rfl,(adC h).symm⟩
  ·rw [if_neg h]
   rcases KW hk es with ⟨h1,h2⟩ | ⟨j,e,h1,h2,h3⟩
   ·refine .inl ⟨by rw [h1];rfl,?_⟩
    intro e he
    rcases List.mem_cons.1 he with rfl | he
    ·intro e'
     exact h ((awC hk).2 e'.symm)
    ·exact h2 e he
   ·exact .inr ⟨j+1,e,by rw [h1];rfl,by simpa using h2,h3⟩
structure Gm (P:Program) (kt:TypeId) (g:fM):Prop where
 check:∀(w:World) (em:Bool) (v:Value),fe g v=true→(Instr.checkKey em 10000 kt v).run P w=.ok () w
 find:∀(w:World) (x:Value),fe g x=true→∀es:List MapEntry,(∀e∈es,fe g e.key=true)→
  ((Instr.findKey kt x es).run P w=.ok none w∧∀e∈es,e.key≠x)∨∃j e,(Instr.findKey kt x es).run P w=.ok (some (j,e.val)) w∧es[j]?=some e∧e.key=x
 stays:∀(w:World) (v:Value),fe g v=true→(Instr.keyThatStays v v).run P w=.ok v w
theorem alg {P:Program} {kt:TypeId} {g:fM} {d:TypeDesc} (hd:P.underlying kt=some d) (hg:∀v,fe g v=true→MapKept.IsKey d v):Gm P kt g where
 check w em v hv:=MapKept.run_checkKey hd (hg v hv) em 9999
 find w x hx es jq:=by
  rcases MapKept.findNow_spec (hg x hx) es 0 (fun e he=>hg _ (jq e he)) with ⟨h1,h2⟩ | ⟨j,e,h1,h2,h3⟩
  ·exact .inl ⟨MapKept.run_findKey hd h1,h2⟩
  ·exact .inr ⟨j,e,by simpa using MapKept.run_findKey hd h1,h2,h3⟩
 stays w v hv:=MapKept.run_keyThatStays (hg v hv)
section
variable {P : Program}
theorem afx {k:IntKind} {e:TypeId} {D:Nat} (he:P.underlying e=some (.int k)) (hc:P.cellsOf e=1) (cs:List Value) (h:∀v∈cs,(kB k v&&EY k v)=true):
  ∀m,m≤cs.length→∃ls,((List.range m).mapM fun i=>P.keyLits (D+1) e ((cs.drop (i*P.cellsOf e)).take (P.cellsOf e)))=some ls
 | 0,_=>⟨[],rfl⟩
 | m+1,hm=>by
  obtain ⟨ls,Rh⟩:=afx he hc cs h m (by omega)
  have wq:m<cs.length:=by omega
  have hv:=h cs[m] (List.getElem_mem wq)
  rw [and_eq_true] at hv
  have h1:(cs.drop (m*P.cellsOf e)).take (P.cellsOf e)=[cs[m]]:=by
   rw [hc,Nat.mul_one]
   apply List.ext_getElem?
   intro i
   rw [List.getElem?_take]
   cases i with
   | zero=>simp [wq]
   | succ i=>simp
  generalize cs[m]=v at hv h1
  obtain ⟨k',n,rfl⟩:∃k' n,v=.int k' n:=by
   cases v <;> first | exact ⟨_,_,rfl⟩ | simp [kB] at hv
  have hk:k'=k:=by simpa [kB] using hv.1
  subst hk
  have hr:k'.min≤n∧n≤k'.max:=by simpa [EY] using hv.2
  have hw:(Lit.int k' n).wf=true:=by simp [Lit.wf,hr]
  refine ⟨ls++[[.int k' n]],?_⟩
  rw [List.range_succ,List.mapM_append,Rh]
  simp [h1,Program.keyLits,he,hw]
theorem ayo {kt e:TypeId} {n:Nat} {k:IntKind} (hu:P.underlying kt=some (.array n e)) (he:P.underlying e=some (.int k)) (hc1:P.cellsOf e=1) (QS:P.cellsOf kt=n) (kU:P.types.size≠0):Gm P kt (.ints n k):=by
 have A:WideMaps.ArrKey P kt e n:=⟨hu,by simp [Program.plainKey,he],hc1,QS⟩
 have key:∀v,fe (.ints n k) v=true→∃l,keyOf P kt v=some l:=by
  intro v hv
  cases v <;> simp [fe] at hv
  rename_i cs
  obtain ⟨h1,h2⟩:=hv
  have hkt:=A.keyType ⟨P.types.size-1,by omega⟩
  obtain ⟨D,hD⟩:∃D,P.types.size=D+1:=⟨P.types.size-1,by omega⟩
  obtain ⟨ls,Rh⟩:=afx (D:=D) he hc1 cs.toList (fun v hv=>by obtain ⟨i,hi,e⟩:=List.mem_iff_getElem.1 hv;have:=h2 i (by simpa using hi);rw [←e];simpa using this) n (by simp [h1])
  refine ⟨.string (keyBytes ls.flatten),?_⟩
  unfold keyOf
  rw [hu]
  have hf:(Value.agg cs).formed P kt=true:=by simp [Value.formed,hu,QS,h1]
  simp only [hkt,hf,Bool.and_self,if_true]
  unfold Program.keyLits
  rw [hu]
  have hl:(Value.agg cs).cells.toList.length=P.cellsOf kt:=by simp [Value.cells,QS,h1]
  simp only [hl,if_true,hD]
  have:(Value.agg cs).cells.toList=cs.toList:=rfl
  rw [this,Rh]
  rfl
 have K:=A.law
 exact {
  check:=fun w em v hv=>let ⟨l,hl⟩:=key v hv;K.check w em hl
  find:=fun w x hx es jq=>let ⟨l,hl⟩:=key x hx;K.find w hl es fun e he=>key _ (jq e he)
  stays:=fun w v hv=>let ⟨l,hl⟩:=key v hv;K.stays w hl }
theorem IW {t:TypeId} {g:fM} (h:rL P t=some g):∃kt et,P.underlying t=some (.map kt et)∧Gm P kt g:=by
 unfold rL at h
 split at h
 ·rename_i kt et ht
  refine ⟨kt,et,ht,?_⟩
  split at h
  ·cases h
  ·split at h
   ·rename_i hk
    simp at h;subst h
    exact alg hk fun v hv=>by cases v <;> simp [fe] at hv;trivial
   ·rename_i k hk
    simp at h;subst h
    exact alg hk fun v hv=>by cases v <;> simp [fe,kB] at hv;exact hv
   ·rename_i n e hk
    split at h
    ·rename_i k he
     split at h
     ·rename_i hc
      simp at h;subst h
      simp at hc
      exact ayo hk he hc.1.1 hc.1.2 (by rw [Ne,Array.size_eq_zero_iff];exact hc.2)
     ·cases h
    ·cases h
   ·cases h
 ·cases h
end
section
variable {P : Program} {w : World} {ρ : aI} {h : ae}
structure sK (ρ:aI) (g:fM) (es:List (Nat×Value×Value)) (aH:Array MapEntry):Prop where
 size:aH.size=es.length
 nodup:(es.map fun e=>e.2.1).Nodup
 get:∀(j b:Nat) (k v:Value),es[j]?=some (b,k,v)→fe g k=true∧∃en,aH[j]?=some en∧en.key=k∧en.born=b∧ay ρ v en.val
theorem aX.BO (H:aX P ρ h w) {i:Nat} {r:RI} {g:fM} {c:Nat} {es:List (Nat×Value×Value)} (hi:ρ i=some r) (he:h[i]?=some (.df g c es)):
  ∃aH,w.heap[r.bu]?=some (.map aH c)∧sK ρ g es aH:=by
 obtain ⟨o,ho,hr⟩:=H.obj i r hi
 rw [he] at ho
 cases ho
 obtain ⟨h0,aH,h1,h2,h3⟩:=hr
 exact ⟨aH,h1,h2,h0,h3⟩
theorem sK.inv {g:fM} {es:List (Nat×Value×Value)} {aH:Array MapEntry} (E:sK ρ g es aH) {j:Nat} {en:MapEntry} (hj:aH[j]?=some en):∃v,es[j]?=some (en.born,en.key,v)∧fe g en.key=true∧ay ρ v en.val:=by
 have aB:j<es.length:=by rw [←E.size];exact (Array.getElem?_eq_some_iff.1 hj).1
 obtain ⟨b,k,v⟩:Nat×Value×Value:=es[j]
 have jq:=List.getElem?_eq_getElem aB
 generalize he:es[j]=x at jq
 obtain ⟨b,k,v⟩:=x
 obtain ⟨g1,en',g2,g3,g4,g5⟩:=E.get j b k v jq
 rw [hj] at g2
 cases g2
 subst g3;subst g4
 exact ⟨v,jq,g1,g5⟩
theorem Vv {g:fM} {kt:TypeId} {es:List (Nat×Value×Value)} {aH:Array MapEntry} (L:Gm P kt g) (E:sK ρ g es aH) {k:Value} (hk:fe g k=true):
  ((mi k es=none∧(∀e∈es,e.2.1≠k))∧(Instr.findKey kt k aH.toList).run P w=.ok none w)∨
  ∃j b v en,mi k es=some j∧es[j]?=some (b,k,v)∧aH[j]?=some en∧en.key=k∧en.born=b∧ay ρ v en.val∧(Instr.findKey kt k aH.toList).run P w=.ok (some (j,en.val)) w:=by
 have fh:∀e∈aH.toList,fe g e.key=true:=by
  intro e he
  obtain ⟨j,hj,e'⟩:=List.mem_iff_getElem.1 he
  have:aH[j]?=some e:=by
   rw [←getElem?_toList,List.getElem?_eq_getElem hj,e']
  exact (E.inv this).choose_spec.2.1
 rcases L.find w k hk aH.toList fh with ⟨h1,h2⟩ | ⟨j,en,h1,h2,h3⟩
 ·rcases KW hk es with ⟨p1,p2⟩ | ⟨j,e,p1,p2,p3⟩
  ·exact .inl ⟨⟨p1,p2⟩,h1⟩
  ·exfalso
   obtain ⟨b,k',v⟩:=e
   obtain ⟨_,en,q1,q2,_⟩:=E.get j b k' v p2
   have hm:en∈aH.toList:=by
    rw [←getElem?_toList] at q1
    exact mem_of_getElem? q1
   exact h2 en hm (q2.trans p3)
 ·have h2':aH[j]?=some en:=by rw [←getElem?_toList];exact h2
  obtain ⟨v,q1,q2,q3⟩:=E.inv h2'
  rcases KW hk es with ⟨p1,p2⟩ | ⟨j',e,p1,p2,p3⟩
  ·exact absurd h3 (p2 _ (mem_of_getElem? q1))
  ·have hj:j'=j:=by
    have hn:=List.pairwise_iff_getElem.1 E.nodup
    have l1:j<es.length:=(bL q1).1
    have l2:j'<es.length:=(bL p2).1
    have k1:(es.map fun e=>e.2.1)[j]'(by simpa using l1)=k:=by
     have:=(bL q1).2
     simp [this,h3]
    have k2:(es.map fun e=>e.2.1)[j']'(by simpa using l2)=k:=by
     have:=(bL p2).2
     simp [this,p3]
    rcases Nat.lt_trichotomy j j' with aB | heq | aB
    ·exact absurd (k1.trans k2.symm) (hn j j' _ _ aB)
    ·exact heq.symm
    ·exact absurd (k2.trans k1.symm) (hn j' j _ _ aB)
   subst hj
   exact .inr ⟨_,_,v,en,p1,by rw [q1,h3],h2',h3,rfl,q3,h1⟩
theorem Bh.rel {z:Value} (h:Bh z=true):ay ρ z z:=by
 unfold Bh at h
 split at h
 ·rename_i cs
  rw [all_eq_true] at h
  have cl:∀x∈cs.toList,mA x=true∧gN x=true:=fun x hx=>by have:=h x hx;simpa [BI] using this
  refine .agg rfl (fun x hx=>(cl x hx).2) (fun k x x' hx bY=>?_)
  rw [hx] at bY
  cases bY
  exact mA.rel (cl x (by rw [←getElem?_toList] at hx;exact mem_of_getElem? hx)).1
 ·exact mA.rel h
theorem aD4 (H:aX P ρ h w) {it E0 v:Value} (hi:Ap h it=some v) (hv:ay ρ it E0):∃v',(Instr.entry E0).run P w=.ok v' w∧ay ρ v v':=by
 unfold Ap at hi
 split at hi
 ·rename_i j
  split at hi
  ·rename_i i kE seen last tf
   split at hi
   ·rename_i g c es b jq hb
    split at hi
    ·rename_i fO
     subst fO
     cases hv with
     | ptr hr=>
      rename_i r
      obtain ⟨o,ho,nH⟩:=H.obj j r hr
      rw [tf] at ho
      cases ho
      obtain ⟨JA,rm,Jy,sX⟩:=nH
      obtain ⟨aH,hm,E⟩:=H.BO Jy jq
      rw [JA]
      rw [map_eq_some_iff] at hi
      obtain ⟨e,he,rfl⟩:=hi
      have aw0:∃en,aH.find? (fun x=>x.born==b)=some en∧en.key=e.2.1∧fe g e.2.1=true∧ay ρ e.2.2 en.val:=by
       rw [←Array.find?_toList]
       have key:∀(l1:List (Nat×Value×Value)) (l2:List MapEntry),l2.length=l1.length→(∀(j b:Nat) (k v:Value),l1[j]?=some (b,k,v)→fe g k=true∧∃en,l2[j]?=some en∧en.key=k∧en.born=b∧ay ρ v en.val)→
         l1.find? (fun x=>x.1==b)=some e→∃en,l2.find? (fun x=>x.born==b)=some en∧en.key=e.2.1∧fe g e.2.1=true∧ay ρ e.2.2 en.val:=by
        intro l1
        induction l1 with
        | nil=>intro l2 _ _ h;simp at h
        | cons x l1 ih=>
         intro l2 hl fh hf
         obtain ⟨bx,kx,vx⟩:=x
         cases l2 with
         | nil=>simp at hl
         | cons y l2=>
          obtain ⟨g1,en,g2,g3,g4,g5⟩:=fh 0 bx kx vx rfl
          simp at g2
          subst g2
          rw [List.find?_cons] at hf⊢
          by_cases B7:(bx==b)=true
          ·simp only [B7] at hf
           cases hf
           rw [g4]
           simp only [B7]
           exact ⟨y,rfl,g3,g1,g5⟩
          ·have B7:(bx==b)=false:=by simpa using B7
           simp only [B7] at hf
           rw [g4]
           simp only [B7]
           exact ih l2 (by simpa using hl) (fun j b k v hj=>by simpa using fh (j+1) b k v (by simpa using hj)) hf
       exact key es aH.toList (by simp [E.size]) (fun j b k v hj=>by simpa using E.get j b k v hj) he
      obtain ⟨en,f1,f2,f3,f4⟩:=aw0
      have bQ:(getObj r.bu).run P w=.ok (.mapIter (some rm.bu) kE seen.toArray c) w:=by simp [getObj,Sem.run,sX]
      have Q3:(getObj rm.bu).run P w=.ok (.map aH c) w:=by simp [getObj,Sem.run,hm]
      have zH:seen.toArray.back?=some b:=by simpa using hb
      refine ⟨.tuple #[en.key,en.val],?_,?_⟩
      ·unfold Instr.entry
       simp [bQ,Q3,hb,f1]
      ·rw [f2]
       have Re:ay ρ e.2.1 e.2.1:=by
        have ints:∀{kd:IntKind} {v:Value},kB kd v=true→ay ρ v v∧gN v=true:=by
         intro kd v hv
         cases v <;> simp [kB] at hv
         exact ⟨.int _ _,rfl⟩
        cases yd:e.2.1 with
        | int kd n=>exact .int _ _
        | string s=>exact .string _
        | agg cs=>
         rw [yd] at f3
         cases g with
         | ints n kd=>
          simp only [fe,and_eq_true,all_eq_true] at f3
          refine .agg rfl (fun x hx=>(ints (f3.2 x hx).1).2) (fun k x x' hx bY=>?_)
          rw [hx] at bY
          cases bY
          exact (ints (f3.2 x (by rw [←getElem?_toList] at hx;exact mem_of_getElem? hx)).1).1
         | int _=>simp [fe,kB] at f3
         | str=>simp [fe] at f3
        | _=>rw [yd] at f3;cases g <;> simp [fe,kB] at f3
       exact ay.sA (.cons Re (.cons f4 .nil))
    ·cases hi
   ·cases hi
  ·cases hi
 ·cases hi
theorem aFS {t:TypeId} {z:Value} (hz:L9 P t=some z):(∀w,(zeroValue t).run P w=.ok z w)∧Bh z=true:=by
 unfold L9 at hz
 split at hz
 ·rename_i i hi
  split at hz
  ·rename_i z' uQ
   split at hz
   ·rename_i hc
    simp at hz;subst hz
    exact ⟨fun w=>A2 w hi uQ,hc⟩
   ·cases hz
  ·cases hz
 ·cases hz
theorem ay.key {g:fM} {k k':Value} (hk:fe g k=true) (h:ay ρ k k'):k'=k:=by
 have ints:∀{kd:IntKind} {v v':Value},kB kd v=true→ay ρ v v'→v'=v:=by
  intro kd v v' hv hr
  cases hr <;> first | rfl | simp [kB] at hv
 cases h with
 | int=>rfl
 | string=>rfl
 | agg hs _ fh=>
  rename_i xs ft _
  cases g with
  | ints n kd=>
   simp only [fe,and_eq_true,all_eq_true] at hk
   congr 1
   apply Array.ext
   ·exact hs.symm
   ·intro i h1 h2
    exact ints (hk.2 xs[i] (by simp)).1 (fh i _ _ (getElem?_eq_getElem h2) (getElem?_eq_getElem h1))
  | int _=>simp [fe,kB] at hk
  | str=>simp [fe] at hk
 | _=>cases g <;> simp [fe,kB] at hk
theorem aEc (H:aX P ρ h w) {t kt et:TypeId} {g:fM} {ok:Bool} {z m m' k k' v:Value} (hg:rL P t=some g) (ht:P.underlying t=some (.map kt et)) (hz:L9 P et=some z)
  (hi:Ar g ok z h m k=some v) (hm:ay ρ m m') (qE:ay ρ k k'):∃v',(Instr.lookup t m' k' ok).run P w=.ok v' w∧ay ρ v v':=by
 obtain ⟨kt',et',RQ,L⟩:=IW hg
 rw [ht] at RQ
 cases RQ
 unfold Ar at hi
 split at hi
 ·rename_i i
  cases hm with
  | map hr=>
   rename_i r
   split at hi
   ·rename_i g' c es he
    split at hi
    ·rename_i oW
     obtain ⟨rfl,hk⟩:=oW
     rw [qE.key hk]
     have amz:∀{aH:Array MapEntry} {clock:Nat},w.heap[r.bu]?=some (.map aH clock)→(getObj r.bu).run P w=.ok (.map aH clock) w:=by
      intro aH clock hb
      simp [getObj,Sem.run,hb]
     obtain ⟨aH,hb,E⟩:=H.BO hr he
     obtain ⟨pW,oD⟩:=aFS hz
     rcases Vv (w:=w) L E hk with ⟨⟨e1,_⟩,e2⟩ | ⟨j,b,u,en,e1,e2,e3,e4,e5,e6,e7⟩
     ·have:rJ k es=none:=by simp [rJ,e1]
      rw [this] at hi
      simp at hi
      have gq:(Instr.lookup t (.map (some r.bu)) k ok).run P w=.ok (if ok then .tuple #[z,.bool false] else z) w:=by
       simp [Instr.lookup,run_underlying ht,amz hb,L.check w _ k hk,e2,pW]
      refine ⟨_,gq,?_⟩
      subst hi
      cases ok
      ·exact Bh.rel oD
      ·exact ay.sA (.cons (Bh.rel oD) (.cons (.bool _) .nil))
     ·have:rJ k es=some u:=by simp [rJ,e1,e2]
      rw [this] at hi
      simp at hi
      have gq:(Instr.lookup t (.map (some r.bu)) k ok).run P w=.ok (if ok then .tuple #[en.val,.bool true] else en.val) w:=by
       simp [Instr.lookup,run_underlying ht,amz hb,L.check w _ k hk,e7]
      refine ⟨_,gq,?_⟩
      subst hi
      cases ok
      ·exact e6
      ·exact ay.sA (.cons e6 (.cons (.bool _) .nil))
    ·cases hi
   ·cases hi
 ·cases hi
end
end
section
inductive mU (ρ:aI):List (ByteArray×Value)→List MapEntry→Prop
 | nil:mU ρ [] []
 | cons {k:ByteArray} {v:Value} {en:MapEntry} {es:List (ByteArray×Value)} {aH:List MapEntry}:en.key=.string k→ay ρ v en.val→mU ρ es aH→mU ρ ((k,v)::es) (en::aH)
theorem mU.of {ρ:aI}:∀{es:List (ByteArray×Value)} {aH:List MapEntry},aH.length=es.length→
  (∀(j:Nat) (k:ByteArray) (v:Value),es[j]?=some (k,v)→∃en,aH[j]?=some en∧en.key=.string k∧ay ρ v en.val)→mU ρ es aH
 | [],[],_,_=>.nil
 | (k,v)::es,en::aH,hl,h=>by
  obtain ⟨en',h1,h2,h3⟩:=h 0 k v rfl
  simp at h1;subst h1
  exact .cons h2 h3 (mU.of (by simpa using hl) fun j k' v' hj=>by simpa using h (j+1) k' v' (by simpa using hj))
theorem mU.to {ρ:aI} {es:List (ByteArray×Value)} {aH:List MapEntry} (h:mU ρ es aH):
  aH.length=es.length∧∀(j:Nat) (k:ByteArray) (v:Value),es[j]?=some (k,v)→∃en,aH[j]?=some en∧en.key=.string k∧ay ρ v en.val:=by
 induction h with
 | nil=>exact ⟨rfl,fun j k v hj=>by simp at hj⟩
 | cons h1 h2 _ ih=>
  refine ⟨by simp [ih.1],?_⟩
  intro j k v hj
  cases j with
  | zero=>simp at hj;obtain ⟨rfl,rfl⟩:=hj;exact ⟨_,rfl,h1,h2⟩
  | succ j=>simp at hj;simpa using ih.2 j k v hj
theorem mU.mono {ρ av:aI} (hle:ρ.le av) {es:List (ByteArray×Value)} {aH:List MapEntry} (h:mU ρ es aH):mU av es aH:=by
 induction h with
 | nil=>exact .nil
 | cons h1 h2 _ ih=>exact .cons h1 (h2.mono hle) ih
theorem awj {ρ:aI} {es:List (ByteArray×Value)} {aH:List MapEntry} (h:mU ρ es aH) (k:ByteArray):∀i:Nat,
  (vW k es=none∧Instr.findNow .string (.string k) aH i=some none)∨
  (∃v v' j,vW k es=some v∧Instr.findNow .string (.string k) aH i=some (some (i+j,v'))∧ay ρ v v'∧(∃en,aH[j]?=some en∧en.key=.string k)):=by
 induction h with
 | nil=>intro i;exact .inl ⟨rfl,rfl⟩
 | cons h1 h2 _ ih=>
  rename_i k0 v0 en es aH _
  intro i
  by_cases hk:k=k0
  ·subst hk
   refine .inr ⟨v0,en.val,0,by simp [vW],?_,h2,en,rfl,h1⟩
   have hb:(k==k)=true:=(MapKept.bytes_beq k k).2 rfl
   simp [Instr.findNow,h1,Instr.sameNow,hb]
  ·have hb:(k==k0)=false:=by
    rw [Bool.eq_false_iff]
    exact fun e=>hk ((MapKept.bytes_beq k k0).1 e)
   rcases ih (i+1) with ⟨e1,e2⟩ | ⟨v,v',j,e1,e2,e3,e4⟩
   ·refine .inl ⟨by simp [vW,hk,e1],?_⟩
    simp [Instr.findNow,h1,Instr.sameNow,hb,e2]
   ·refine .inr ⟨v,v',j+1,by simp [vW,hk,e1],?_,e3,?_⟩
    ·simp [Instr.findNow,h1,Instr.sameNow,hb,e2];omega
    ·simpa using e4
inductive mV (kd:IntKind) (ρ:aI):List (Int×Value)→List MapEntry→Prop
 | nil:mV kd ρ [] []
 | cons {k:Int} {v:Value} {en:MapEntry} {es:List (Int×Value)} {aH:List MapEntry}:en.key=.int kd k→ay ρ v en.val→mV kd ρ es aH→mV kd ρ ((k,v)::es) (en::aH)
theorem mV.of {kd:IntKind} {ρ:aI}:∀{es:List (Int×Value)} {aH:List MapEntry},aH.length=es.length→
  (∀(j:Nat) (k:Int) (v:Value),es[j]?=some (k,v)→∃en,aH[j]?=some en∧en.key=.int kd k∧ay ρ v en.val)→mV kd ρ es aH
 | [],[],_,_=>.nil
 | (k,v)::es,en::aH,hl,h=>by
  obtain ⟨en',h1,h2,h3⟩:=h 0 k v rfl
  simp at h1;subst h1
  exact .cons h2 h3 (mV.of (by simpa using hl) fun j k' v' hj=>by simpa using h (j+1) k' v' (by simpa using hj))
theorem mV.to {kd:IntKind} {ρ:aI} {es:List (Int×Value)} {aH:List MapEntry} (h:mV kd ρ es aH):
  aH.length=es.length∧∀(j:Nat) (k:Int) (v:Value),es[j]?=some (k,v)→∃en,aH[j]?=some en∧en.key=.int kd k∧ay ρ v en.val:=by
 induction h with
 | nil=>exact ⟨rfl,fun j k v hj=>by simp at hj⟩
 | cons h1 h2 _ ih=>
  refine ⟨by simp [ih.1],?_⟩
  intro j k v hj
  cases j with
  | zero=>simp at hj;obtain ⟨rfl,rfl⟩:=hj;exact ⟨_,rfl,h1,h2⟩
  | succ j=>simp at hj;simpa using ih.2 j k v hj
theorem mV.mono {kd:IntKind} {ρ av:aI} (hle:ρ.le av) {es:List (Int×Value)} {aH:List MapEntry} (h:mV kd ρ es aH):mV kd av es aH:=by
 induction h with
 | nil=>exact .nil
 | cons h1 h2 _ ih=>exact .cons h1 (h2.mono hle) ih
theorem awk {kd:IntKind} {ρ:aI} {es:List (Int×Value)} {aH:List MapEntry} (h:mV kd ρ es aH) (k:Int):∀i:Nat,
  (gK k es=none∧Instr.findNow (.int kd) (.int kd k) aH i=some none)∨
  (∃v v' j,gK k es=some v∧Instr.findNow (.int kd) (.int kd k) aH i=some (some (i+j,v'))∧ay ρ v v'∧(∃en,aH[j]?=some en∧en.key=.int kd k)):=by
 induction h with
 | nil=>intro i;exact .inl ⟨rfl,rfl⟩
 | cons h1 h2 _ ih=>
  rename_i k0 v0 en es aH _
  intro i
  by_cases hk:k=k0
  ·subst hk
   refine .inr ⟨v0,en.val,0,by simp [gK],?_,h2,en,rfl,h1⟩
   have hb:(k==k)=true:=beq_self_eq_true k
   simp [Instr.findNow,h1,Instr.sameNow]
  ·have hb:(k==k0)=false:=by
    exact beq_false_of_ne hk
   rcases ih (i+1) with ⟨e1,e2⟩ | ⟨v,v',j,e1,e2,e3,e4⟩
   ·refine .inl ⟨by simp [gK,hk,e1],?_⟩
    simp [Instr.findNow,h1,Instr.sameNow,hb,e2]
   ·refine .inr ⟨v,v',j+1,by simp [gK,hk,e1],?_,e3,?_⟩
    ·simp [Instr.findNow,h1,Instr.sameNow,hb,e2];omega
    ·simpa using e4
section
variable {P : Program} {w : World} {ρ : aI} {h : ae}
theorem afC {t:TypeId} (h:isString P t=true):P.underlying t=some .string:=by
 unfold isString at h
 split at h
 ·assumption
 ·cases h
theorem run_checkKey (b:Bool) {kt:TypeId} (hk:P.underlying kt=some .string) (k:ByteArray):(Instr.checkKey b 10000 kt (.string k)).run P w=.ok () w:=by
 rw [show (10000:Nat)=9999+1 from rfl,Instr.checkKey]
 simp [run_underlying hk]
theorem run_findKey {kt:TypeId} (hk:P.underlying kt=some .string) (k:ByteArray) (aH:List MapEntry) {r:Option (Nat×Value)} (hr:Instr.findNow .string (.string k) aH 0=some r):
  (Instr.findKey kt (.string k) aH).run P w=.ok r w:=by
 simp [Instr.findKey,run_underlying hk,hr]
theorem Lh (b:Bool) {kt:TypeId} {kd:IntKind} (hk:P.underlying kt=some (.int kd)) (k:Int):(Instr.checkKey b 10000 kt (.int kd k)).run P w=.ok () w:=by
 rw [show (10000:Nat)=9999+1 from rfl,Instr.checkKey]
 simp [run_underlying hk]
theorem Li {kt:TypeId} {kd:IntKind} (hk:P.underlying kt=some (.int kd)) (k:Int) (aH:List MapEntry) {r:Option (Nat×Value)} (hr:Instr.findNow (.int kd) (.int kd k) aH 0=some r):
  (Instr.findKey kt (.int kd k) aH).run P w=.ok r w:=by
 simp [Instr.findKey,run_underlying hk,hr]
theorem aX.aH (H:aX P ρ h w) {i:Nat} {r:RI} {es:List (ByteArray×Value)} (hi:ρ i=some r) (he:h[i]?=some (.smap es)):
  ∃aH clock,w.heap[r.bu]?=some (.map aH clock)∧mU ρ es aH.toList:=by
 obtain ⟨o,ho,hr⟩:=H.obj i r hi
 rw [he] at ho
 cases ho
 obtain ⟨aH,clock,h1,h2,h3⟩:=hr
 exact ⟨aH,clock,h1,mU.of (by simpa using h2) (by simpa using h3)⟩
theorem aX.ac9 (H:aX P ρ h w) {i:Nat} {r:RI} {kd:IntKind} {es:List (Int×Value)} (hi:ρ i=some r) (he:h[i]?=some (.eP kd es)):
  ∃aH clock,w.heap[r.bu]?=some (.map aH clock)∧mV kd ρ es aH.toList:=by
 obtain ⟨o,ho,hr⟩:=H.obj i r hi
 rw [he] at ho
 cases ho
 obtain ⟨aH,clock,h1,h2,h3⟩:=hr
 exact ⟨aH,clock,h1,mV.of (by simpa using h2) (by simpa using h3)⟩
theorem run_getObj_map {b:Nat} {aH:Array MapEntry} {clock:Nat} (hb:w.heap[b]?=some (.map aH clock)):(getObj b).run P w=.ok (.map aH clock) w:=by
 simp [getObj,Sem.run,hb]
theorem anz {t:TypeId} {z:Value} (hz:Dc P t=some z):(∀w,(zeroValue t).run P w=.ok z w)∧mA z=true:=by
 unfold Dc at hz
 split at hz
 ·rename_i i hi
  split at hz
  ·rename_i z' uQ
   split at hz
   ·rename_i hc
    simp at hz;subst hz
    simp [BI] at hc
    exact ⟨fun w=>A2 w hi uQ,hc.1⟩
   ·cases hz
  ·cases hz
 ·cases hz
theorem aEb (H:aX P ρ h w) {t kt et:TypeId} {ok:Bool} {z m m' k k' v:Value} (ht:P.underlying t=some (.map kt et)) (hk:isString P kt=true) (hz:Dc P et=some z)
  (hi:JG ok z h m k=some v) (hm:ay ρ m m') (qE:ay ρ k k'):∃v',(Instr.lookup t m' k' ok).run P w=.ok v' w∧ay ρ v v':=by
 unfold JG at hi
 split at hi
 ·rename_i i key
  rw [qE.xe]
  cases hm with
  | map hr=>
   rename_i r
   split at hi
   ·rename_i es he
    obtain ⟨aH,clock,hb,zT⟩:=H.aH hr he
    obtain ⟨pW,oD⟩:=anz hz
    have mD:=afC hk
    rcases awj zT key 0 with ⟨e1,e2⟩ | ⟨u,u',j,e1,e2,e3,_⟩
    ·rw [e1] at hi
     simp at hi
     have gq:(Instr.lookup t (.map (some r.bu)) (.string key) ok).run P w=.ok (if ok then .tuple #[z,.bool false] else z) w:=by
      simp [Instr.lookup,run_underlying ht,run_getObj_map hb,run_checkKey _ mD,run_findKey mD key _ e2,pW]
     refine ⟨_,gq,?_⟩
     subst hi
     cases ok
     ·exact mA.rel oD
     ·exact ay.sA (.cons (mA.rel oD) (.cons (.bool _) .nil))
    ·rw [e1] at hi
     simp at hi
     have gq:(Instr.lookup t (.map (some r.bu)) (.string key) ok).run P w=.ok (if ok then .tuple #[u',.bool true] else u') w:=by
      simp [Instr.lookup,run_underlying ht,run_getObj_map hb,run_checkKey _ mD,run_findKey mD key _ e2]
     refine ⟨_,gq,?_⟩
     subst hi
     cases ok
     ·exact e3
     ·exact ay.sA (.cons e3 (.cons (.bool _) .nil))
   ·cases hi
 ·cases hi
theorem afz {t:TypeId} {kd:IntKind} (h:Ay P t=some kd):P.underlying t=some (.int kd):=by
 unfold Ay at h
 split at h
 ·simp at h;subst h;assumption
 ·cases h
theorem aEd (H:aX P ρ h w) {t kt et:TypeId} {kd:IntKind} {ok:Bool} {z m m' k k' v:Value} (ht:P.underlying t=some (.map kt et)) (hk:Ay P kt=some kd) (hz:Dc P et=some z)
  (hi:sg kd ok z h m k=some v) (hm:ay ρ m m') (qE:ay ρ k k'):∃v',(Instr.lookup t m' k' ok).run P w=.ok v' w∧ay ρ v v':=by
 unfold sg at hi
 split at hi
 ·rename_i i Cw key
  rw [qE.mK]
  cases hm with
  | map hr=>
   rename_i r
   split at hi
   ·rename_i nK es he
    split at hi
    ·rename_i oW
     obtain ⟨rfl,rfl⟩:=oW
     obtain ⟨aH,clock,hb,zT⟩:=H.ac9 hr he
     obtain ⟨pW,oD⟩:=anz hz
     have mD:=afz hk
     rcases awk zT key 0 with ⟨e1,e2⟩ | ⟨u,u',j,e1,e2,e3,_⟩
     ·rw [e1] at hi
      simp at hi
      have gq:(Instr.lookup t (.map (some r.bu)) (.int nK key) ok).run P w=.ok (if ok then .tuple #[z,.bool false] else z) w:=by
       simp [Instr.lookup,run_underlying ht,run_getObj_map hb,Lh _ mD,Li mD key _ e2,pW]
      refine ⟨_,gq,?_⟩
      subst hi
      cases ok
      ·exact mA.rel oD
      ·exact ay.sA (.cons (mA.rel oD) (.cons (.bool _) .nil))
     ·rw [e1] at hi
      simp at hi
      have gq:(Instr.lookup t (.map (some r.bu)) (.int nK key) ok).run P w=.ok (if ok then .tuple #[u',.bool true] else u') w:=by
       simp [Instr.lookup,run_underlying ht,run_getObj_map hb,Lh _ mD,Li mD key _ e2]
      refine ⟨_,gq,?_⟩
      subst hi
      cases ok
      ·exact e3
      ·exact ay.sA (.cons e3 (.cons (.bool _) .nil))
    ·cases hi
   ·cases hi
 ·cases hi
theorem azu {o:Oper} {lo:pC} {g g':Operand→Value} (hc:vQ P o.op=some lo) (aC:o.op.operands.all jy=true) (H:aX P ρ h w)
  (hg:∀x,jy x=true→ay ρ (g x) (g' x)) {v:Value} (hi:fD lo g h=some v):∃v',(execOp g' o).run P w=.ok (.value v') w∧ay ρ v v':=by
 cases ho:o.op with
 | load t a=>
  rw [ho] at hc aC
  simp [Op.operands] at aC
  simp only [vQ] at hc
  split at hc
  ·rename_i d ht
   split at hc
   ·rename_i hk
    simp at hc;subst hc
    simp only [and_eq_true] at hk
    obtain ⟨v',h1,h2⟩:=amC H ht hk.1 hi (hg a aC)
    exact ⟨v',by simp [execOp,ho,h1],h2⟩
   ·cases hc
  ·cases hc
 | entry it=>
  rw [ho] at hc aC
  simp [Op.operands] at aC
  simp [vQ] at hc;subst hc
  obtain ⟨v',h1,h2⟩:=aD4 H hi (hg it aC)
  exact ⟨v',by simp [execOp,ho,h1],h2⟩
 | convert s d x=>
  rw [ho] at hc aC
  simp [Op.operands] at aC
  simp only [vQ] at hc
  split at hc
  ·rename_i e hs hd
   split at hc
   ·rename_i he
    simp at hc;subst hc
    have hx:=hg x aC
    obtain ⟨h1,h2⟩:=aDX H hi hx
    refine ⟨v,?_,h2⟩
    have:(convert s d (g' x)).run P w=.ok v w:=by
     simp only [fD,se,bind_eq_some_iff] at hi
     obtain ⟨cs,xX,_⟩:=hi
     rcases Lt H xX hx with ⟨e1,_⟩ | ⟨b,o',n,c',e1,_⟩
     ·rw [e1] at h1⊢;rw [run_convert_bytes_string w s d e _ _ _ hs he hd];exact h1
     ·rw [e1] at h1⊢;rw [run_convert_bytes_string w s d e _ _ _ hs he hd];exact h1
    simp [execOp,ho,this]
   ·cases hc
  ·cases hc
 | lookup t m k ok=>
  rw [ho] at hc aC
  simp [Op.operands] at aC
  simp only [vQ] at hc
  split at hc
  ·rename_i g kS
   split at hc
   ·rename_i kt et ht
    simp only [map_eq_some_iff] at hc
    obtain ⟨z,hz,rfl⟩:=hc
    obtain ⟨v',h1,h2⟩:=aEc H kS ht hz hi (hg m aC.1) (hg k aC.2)
    exact ⟨v',by simp [execOp,ho,h1],h2⟩
   ·cases hc
  split at hc
  ·rename_i kt et ht
   split at hc
   ·rename_i hk
    simp only [map_eq_some_iff] at hc
    obtain ⟨z,hz,rfl⟩:=hc
    obtain ⟨v',h1,h2⟩:=aEb H ht hk hz hi (hg m aC.1) (hg k aC.2)
    exact ⟨v',by simp [execOp,ho,h1],h2⟩
   ·simp only [bind_eq_some_iff,map_eq_some_iff] at hc
    obtain ⟨kd,oW,z,hz,rfl⟩:=hc
    obtain ⟨v',h1,h2⟩:=aEd H ht oW hz hi (hg m aC.1) (hg k aC.2)
    exact ⟨v',by simp [execOp,ho,h1],h2⟩
  ·cases hc
 | _=>rw [ho] at hc;simp [vQ] at hc
end
end
section
theorem Lm {xs:List Value} {o:Nat} {vs:List Value} (h:o+vs.length≤xs.length) (j:Nat):
  (setAt xs o vs)[j]?=if j<o then xs[j]? else if j<o+vs.length then vs[j-o]? else xs[j]?:=by
 have hl:(xs.take o).length=o:=by simp;omega
 unfold setAt
 by_cases h1:j<o
 ·rw [if_pos h1,List.append_assoc,getElem?_append_left (by omega),List.getElem?_take,if_pos h1]
 ·rw [if_neg h1]
  by_cases h2:j<o+vs.length
  ·rw [if_pos h2,List.append_assoc,List.getElem?_append_right (by omega),hl,getElem?_append_left (by omega)]
  ·rw [if_neg h2,List.getElem?_append_right (by simp;omega),List.getElem?_drop]
   congr 1
   simp
   omega
theorem VG {xs:List Value} {o:Nat} {vs:List Value} (h:o+vs.length≤xs.length):(setAt xs o vs).length=xs.length:=by
 unfold setAt
 simp
 omega
theorem fS.le {ρ:aI} {c:Array Value} {xs:List Value} (h:fS ρ c 0 xs):xs.length≤c.size:=by
 rcases Nat.eq_zero_or_pos xs.length with hz | hz
 ·omega
 ·have hx:xs[xs.length-1]?=some (xs[xs.length-1]'(by omega)):=List.getElem?_eq_getElem _
  obtain ⟨_,y,hy,_⟩:=h _ _ hx
  have:=(Array.getElem?_eq_some_iff.1 hy).1
  omega
theorem fS.put {ρ:aI} {c:Array Value} {xs:List Value} {o:Nat} {vs jS:List Value} (h:fS ρ c 0 xs) (hv:bF ρ vs jS) (h1:∀x∈vs,gN x=true) (hl:o+vs.length≤xs.length):
  fS ρ (setAt c.toList o jS).toArray 0 (setAt xs o vs):=by
 intro j x hj
 have fO:=h.le
 have hlen:=hv.length
 rw [Lm hl] at hj
 have e:(setAt c.toList o jS).toArray[0+j]?=if j<o then c.toList[j]? else if j<o+jS.length then jS[j-o]? else c.toList[j]?:=by
  rw [zero_add,List.getElem?_toArray,Lm (by simp;omega)]
 rw [e]
 by_cases BZ:j<o
 ·rw [if_pos BZ] at hj⊢
  obtain ⟨q1,y,q2,q3⟩:=h j x hj
  exact ⟨q1,y,by simpa using q2,q3⟩
 ·rw [if_neg BZ] at hj⊢
  by_cases h2:j<o+vs.length
  ·rw [if_pos h2] at hj
   rw [if_pos (by omega)]
   obtain ⟨y,q2,q3⟩:=hv.get hj
   exact ⟨h1 x (mem_of_getElem? hj),y,q2,q3⟩
  ·rw [if_neg h2] at hj
   rw [if_neg (by omega)]
   obtain ⟨q1,y,q2,q3⟩:=h j x hj
   exact ⟨q1,y,by simpa using q2,q3⟩
theorem adp (z:List Value) (n:Nat):∀(j:Nat),j<n*z.length→(List.replicate n z).flatten[j]?=z[j%z.length]?:=by
 induction n with
 | zero=>intro j hj;simp at hj
 | succ n ih=>
  intro j hj
  rw [List.replicate_succ,List.flatten_cons]
  by_cases h:j<z.length
  ·rw [getElem?_append_left h,Nat.mod_eq_of_lt h]
  ·have e:j%z.length=(j-z.length)%z.length:=by rw [Nat.mod_eq_sub_mod (by omega)]
   rw [List.getElem?_append_right (by omega),ih _ (by rw [add_mul] at hj;omega),e]
theorem Wy (z:List Value) (n:Nat):(gy z n).length=n*z.length:=by
 induction n with
 | zero=>simp [gy]
 | succ n ih=>simp only [gy,List.replicate_succ,List.flatten_cons,List.length_append] at ih⊢;rw [ih,add_mul];omega
theorem anA {z:List Value} {n:Nat} {p:Value→Prop} (h:∀x∈z,p x):∀x∈gy z n,p x:=by
 intro x hx
 simp only [gy,List.mem_flatten,List.mem_replicate] at hx
 obtain ⟨l,⟨_,rfl⟩,hm⟩:=hx
 exact h x hm
theorem agj (z:Array Value) (m j:Nat) (hj:j<m) (hz:0<z.size):(madeCells z m)[j]?=z[j%z.size]?:=by
 have aB:j%z.size<z.size:=Nat.mod_lt _ hz
 simp [madeCells,hj,aB]
theorem azw (z:Value) (n k:Nat) (hk:(cR z).length=k):((Array.range (n*k)).map (z.cells[·%z.cells.size]!)).toList=gy (cR z) n:=by
 have hs:z.cells.size=k:=by rw [←hk];simp [cR]
 apply List.ext_getElem?
 intro j
 by_cases hj:j<n*k
 ·have hz:0<z.cells.size:=by
   rcases Nat.eq_zero_or_pos k with h | h
   ·subst h;simp at hj
   ·omega
  have:=agj z.cells (n*k) j hj hz
  simp only [madeCells] at this
  rw [getElem?_toList,this,gy,adp _ _ _ (by rw [hk];exact hj)]
  simp [cR]
 ·rw [List.getElem?_eq_none (by simp;omega),List.getElem?_eq_none (by rw [Wy,hk];omega)]
section
variable {P : Program} {w : World} {ρ : aI} {h : ae}
def kl (P:Program) (ρ:aI) (h:ae) (w:World) (v:Value) (h':ae) (s:Result Next):Prop:=
 ∃nx w' av v',s=.ok nx w'∧(nx=.value v'∨(nx=.skip∧v'=undef))∧ay av v v'∧aX P av h' w'∧Tr ρ h w av h' w'
theorem aX.arr (H:aX P ρ h w) {i:Nat} {r:RI} {e:TypeId} {xs:List Value} (hi:ρ i=some r) (hx:h[i]?=some (.arr e xs)):
  r.elem=e∧r.sh=0∧∃c,w.heap[r.bu]?=some (.cells c e (0,0))∧c.size=r.size∧fS ρ c 0 xs:=by
 obtain ⟨o,ho,hr⟩:=H.obj i r hi
 rw [hx] at ho
 cases ho
 exact hr
theorem aEn (H:aX P ρ h w) {t:TypeId} {a a' v v':Value} {h':ae} (hk:iS P t=true) (hi:qU (P.cellsOf t) h a v=some h') (ha:ay ρ a a') (hv:ay ρ v v'):
  ∃w',(Instr.storeAt t a' v').run P w=.ok () w'∧aX P ρ h' w'∧Tr ρ h w ρ h' w':=by
 unfold qU at hi
 split at hi
 ·rename_i i o
  obtain ⟨r,hr,rfl⟩:=ha.FG
  split at hi
  ·rename_i e xs hx
   split at hi
   ·rename_i hc
    obtain ⟨oA,hl,hle⟩:=hc
    simp at hi;subst hi
    obtain ⟨h1,h2,c,h3,h4,h5⟩:=H.arr hr hx
    have Cq:=hv.cells oA
    have oX:(cR v').length=P.cellsOf t:=by rw [←Cq.length];exact hl
    have b7:=run_storeCells_at P r.bu o e (cR v') 0 c w h3 (by have:=h5.le;simp;omega) (Cq.Fp (hv.Io oA))
    have heq:(c.toList.take (o+0)++cR v'++c.toList.drop (o+0+(cR v').length)).toArray=(setAt c.toList o (cR v')).toArray:=by simp [setAt]
    rw [heq] at b7
    have jr:cC h i:=.inl ⟨e,xs,hx⟩
    obtain ⟨q1,q2⟩:=H.set (o:=.arr e (setAt xs o (cR v))) hr jr (mW.row h3 (setAt c.toList o (cR v')).toArray)
     ⟨h1,h2,_,(mW.row h3 _).here,by simp [VG (show o+(cR v').length≤c.toList.length by have:=h5.le;simp;omega),h4],h5.put Cq (hv.Io oA) (by omega)⟩
    refine ⟨_,?_,q1,q2⟩
    have kU:v'.cells.size=P.cellsOf t:=by rw [←oX];simp [cR]
    have ax0:(storeCells ⟨r.bu,r.sh+o,none⟩ v'.cells.toList).run P w=.ok () (w.setRow r.bu (setAt c.toList o (cR v')).toArray):=by
     rw [h2,zero_add]
     exact b7
    simp [Instr.storeAt,Instr.sureAddr,storeVar,rh w hk,kU,ax0]
   ·cases hi
  ·cases hi
 ·cases hi
theorem Fh (H:aX P ρ h w) {w':World} {e:TypeId} {c:Array Value} {xs:List Value} (nb:jZ w (.cells c e) w') (hc:fS ρ c 0 xs):
  aX P (ρ.add h.length ⟨w.heap.size,0,e,P.cellsOf e,c.size⟩) (h++[.arr e xs]) w'∧Tr ρ h w (ρ.add h.length ⟨w.heap.size,0,e,P.cellsOf e,c.size⟩) (h++[.arr e xs]) w':=
 H.new nb rfl rfl rfl (fun _=>.inl rfl) ⟨rfl,rfl,c,nb.new,rfl,hc.mono (aI.wO H.none)⟩
theorem BC (ρ:aI) (i:Nat) (r:RI):ρ.add i r i=some r:=by simp [aI.add]
theorem agJ (ρ:aI) (h:ae) (r:RI) (hs:r.sh=0):ay (ρ.add h.length r) (CC h) (.pointer (some ⟨r.bu,0,none⟩)):=by
 have:=ay.ptr (ρ:=ρ.add h.length r) (i:=h.length) (o:=0) (BC _ _ _)
 rw [hs] at this
 exact this
theorem FO (ρ:aI) (i:Nat) (r:RI) (hs:r.sh=0) {n c':Nat} (hn:n≤c') (hc:c'≤maxLen) (hb:c'*r.aV≤r.size):ay (ρ.add i r) (sl r.elem i 0 n) (.slice (some ⟨r.bu,0,none⟩) n c'):=
 ay.slice (BC _ _ _) (.inl (by omega)) hn hc (by omega)
theorem aDZ (H:aX P ρ h w) {e:TypeId} {x x' v:Value} {h':ae} (hi:bC e h x=some (v,h')) (hx:ay ρ x x'):
  ∃w' av v',(Instr.box e x').run P w=.ok v' w'∧ay av v v'∧aX P av h' w'∧Tr ρ h w av h' w':=by
 unfold bC at hi
 split at hi
 ·rename_i oA
  simp at hi
  obtain ⟨rfl,rfl⟩:=hi
  have hc:fS ρ x'.cells 0 (cR x):=fS.of (hx.cells oA) (hx.Io oA)
  obtain ⟨q1,q2⟩:=Fh H (jZ.alloc w (.cells x'.cells e)) hc
  exact ⟨_,_,_,by simp [Instr.box,newVar,newRow],agJ _ _ _ rfl,q1,q2⟩
 ·cases hi
theorem aDV (H:aX P ρ h w) {e:TypeId} {zs:List Value} (hz:zeroOf P e=some zs):
  ∃w' av v',(Instr.alloc e true (.tuple #[])).run P w=.ok v' w'∧ay av (CC h) v'∧aX P av (h++[.arr e zs]) w'∧Tr ρ h w av (h++[.arr e zs]) w':=by
 obtain ⟨i,z,hi,qS,rfl,oA,fO,hlen⟩:=Dd hz
 have hc:fS ρ z.cells 0 (cR z):=fS.of (bF.closed fun x hx=>(fO x hx).1) (fun x hx=>(fO x hx).2)
 obtain ⟨q1,q2⟩:=Fh H (jZ.alloc w (.cells z.cells e)) hc
 exact ⟨_,_,_,by simp [Instr.alloc,A2 w hi qS,newVar,newRow],agJ _ _ _ rfl,q1,q2⟩
theorem PJ {t:TypeId} {i:TypeInfo} (hi:P.info? t=some i):P.cellsOf t=i.size:=by simp [Program.cellsOf,hi]
theorem Zl {t:TypeId} {i:TypeInfo} (hi:P.info? t=some i):P.bytesOf t=i.bytes:=by simp [Program.bytesOf,hi]
theorem aEi (H:aX P ρ h w) {t e:TypeId} {n:Nat} {zs:List Value} {ps:List (Nat×Nat×Value)} {qs:Array (Nat×Value)} {v:Value} {h':ae} (ht:P.underlying t=some (.slice e)) (hz:zeroOf P e=some zs)
  (hn:n*P.cellsOf e≤16777216) (bm:P.cellsOf e≠0) (hp:vN ρ (fun i=>some (i*P.cellsOf e,P.cellsOf e)) ps qs.toList) (hi:cZ e n zs h ps=some (v,h')):
  ∃w' av v',(Instr.buildSlice t n qs).run P w=.ok v' w'∧ay av v v'∧aX P av h' w'∧Tr ρ h w av h' w':=by
 obtain ⟨i,z,ow,qS,rfl,oA,fO,hlen⟩:=Dd hz
 have hk:iS P e=true:=by simp [iS,ow]
 have sY:=PJ ow
 simp only [cZ,map_eq_some_iff,Prod.mk.injEq] at hi
 obtain ⟨cs,hf,rfl,rfl⟩:=hi
 obtain ⟨zero,tz,hzl⟩:∃zero:Array Value,(if n*P.cellsOf e=0 then (Pure.pure #[]:Sem (Array Value)) else do pure (←zeroValue e).cells).run P w=.ok zero w∧
   ((Array.range (n*P.cellsOf e)).map (zero[·%zero.size]!)).toList=gy (cR z) n:=by
  by_cases h0:n*P.cellsOf e=0
  ·refine ⟨#[],by simp [h0],?_⟩
   have oz:n=0:=by
    rcases Nat.mul_eq_zero.1 h0 with h | h
    ·exact h
    ·exact absurd h bm
   subst oz
   simp [gy,Array.range_zero']
  ·exact ⟨z.cells,by simp [h0,A2 w ow qS],by rw [sY];exact azw z n i.size hlen⟩
 have awS:bF ρ (gy (cR z) n) (gy (cR z) n):=bF.closed (anA fun x hx=>(fO x hx).1)
 obtain ⟨jv,Cc,hr,h1,qF⟩:=Qi (ys:=(Array.range (n*P.cellsOf e)).map (zero[·%zero.size]!)) hp hf (by rw [hzl];exact awS) (anA fun x hx=>(fO x hx).2)
 obtain ⟨q1,q2⟩:=Fh H (jZ.alloc w (.cells jv e)) (fS.of hr h1)
 have kU:jv.size=n*P.cellsOf e:=by
  have:=hr.length
  rw [qF,Wy,hlen,←sY] at this
  simpa using this.symm
 have EB:n≤maxLen:=by
  have h1:1≤P.cellsOf e:=by omega
  have:=Nat.mul_le_mul_left n h1
  unfold maxLen
  omega
 refine ⟨_,_,.slice (some ⟨w.heap.size,0,none⟩) n n,?_,FO ρ h.length ⟨w.heap.size,0,e,P.cellsOf e,jv.size⟩ rfl (le_refl _) EB (by simp [kU]),q1,q2⟩
 unfold Instr.buildSlice
 simp only [Sem.run_bind,run_underlying ht,Result.andThen_ok,rh w hk]
 have h24:¬(n*P.cellsOf e>2^24):=by rw [show (2^24:Nat)=16777216 from rfl];omega
 rw [if_neg h24]
 by_cases h0:n*P.cellsOf e=0
 ·rw [if_pos h0] at tz⊢
  simp only [Sem.run_pure,Result.ok.injEq,and_true] at tz
  subst tz
  simp only [Sem.run_bind,Sem.run_pure,Result.andThen_ok,Cc]
  simp [newRow]
 ·rw [if_neg h0] at tz⊢
  simp only [Sem.run_bind,Sem.run_pure] at tz⊢
  rw [A2 w ow qS] at tz⊢
  simp only [Result.andThen_ok,Result.ok.injEq,and_true] at tz⊢
  subst tz
  rw [Cc]
  simp [newRow]
end
end
section
section
variable {P : Program} {w : World} {ρ : aI} {h : ae}
theorem aEe (H:aX P ρ h w) {t e:TypeId} {zs:List Value} {l c l' c' v:Value} {h':ae} (ht:P.underlying t=some (.slice e)) (hz:zeroOf P e=some zs)
  (hi:lE e (P.bytesOf e) zs h l c=some (v,h')) (hl:ay ρ l l') (hc:ay ρ c c'):
  ∃w' av v',(Instr.makeSlice t l' c').run P w=.ok v' w'∧ay av v v'∧aX P av h' w'∧Tr ρ h w av h' w':=by
 obtain ⟨i,z,ow,qS,rfl,oA,fO,hlen⟩:=Dd hz
 unfold lE at hi
 split at hi
 ·rename_i k1 l k2 c
  rw [hl.mK,hc.mK]
  split at hi
  ·rename_i hb
   obtain ⟨h0,h1,h2,h3⟩:=hb
   simp at hi
   obtain ⟨rfl,rfl⟩:=hi
   rw [Zl ow] at h2
   have gq:=run_make (P:=P) w t e i z ht ow qS k1 k2 l c h0 h1 h2 h3
   have zM:fS ρ (madeCells z.cells (c.toNat*i.size)) 0 (gy (cR z) l.toNat):=by
    intro j x hj
    have m9:j<l.toNat*i.size:=by
     have:=(bL hj).1
     rwa [Wy,hlen] at this
    have R8:z.cells.size=i.size:=by rw [←hlen];simp [cR]
    have iF:0<z.cells.size:=by
     rcases Nat.eq_zero_or_pos i.size with q | q
     ·rw [q] at m9;simp at m9
     ·omega
    have Rl:l.toNat*i.size≤c.toNat*i.size:=Nat.mul_le_mul_right _ (by omega)
    rw [gy,adp _ _ _ (by rw [hlen];exact m9)] at hj
    have hx:x∈cR z:=mem_of_getElem? hj
    refine ⟨(fO x hx).2,x,?_,mA.rel (fO x hx).1⟩
    rw [zero_add,agj _ _ _ (by omega) iF]
    simpa [cR] using hj
   obtain ⟨q1,q2⟩:=Fh H (jZ.alloc w (.cells (madeCells z.cells (c.toNat*i.size)) e)) zM
   refine ⟨_,_,_,gq,?_,q1,q2⟩
   exact FO ρ h.length ⟨w.heap.size,0,e,P.cellsOf e,(madeCells z.cells (c.toNat*i.size)).size⟩ rfl (by omega) (by unfold maxLen;omega) (by simp [size_madeCells,PJ ow])
  ·cases hi
 ·cases hi
theorem amy {t e:TypeId} {i:TypeInfo} (ht:P.underlying t=some (.slice e)) (hi:P.info? e=some i) (type:TypeId) (b:Option Addr) (n c:Nat) (x:Value) (hn:n≤c)
  (hx:x=.slice none 0 0∨∃a c2,x=.slice (some a) 0 c2):(Builtin.append_ #[t,t] type #[.slice b n c,x]).run P w=.ok (.slice b n c) w:=by
 rcases hx with rfl | ⟨a,c2,rfl⟩
 ·cases b <;> simp [Builtin.append_,run_underlying ht,sizeOf,typeInfo,hi,Builtin.lenOf,hn,Builtin.firstCells,storeCells]
 ·cases b <;> simp [Builtin.append_,run_underlying ht,sizeOf,typeInfo,hi,Builtin.lenOf,hn,Builtin.firstCells,loadCells,loadCellsFrom,storeCells]
theorem PK {ρ:aI} {c:Array Value} {xs ys zs:List Value} (hx:∀(j:Nat) (x:Value),xs[j]?=some x→gN x=true∧∃y,c[j]?=some y∧ay ρ x y) (hz:bF ρ zs ys) (h1:∀x∈zs,gN x=true)
  (hc:∀(j:Nat) (y:Value),ys[j]?=some y→c[xs.length+j]?=some y):fS ρ c 0 (xs++zs):=by
 intro j x hj
 by_cases aB:j<xs.length
 ·rw [getElem?_append_left aB] at hj
  simpa using hx j x hj
 ·rw [List.getElem?_append_right (by omega)] at hj
  obtain ⟨y,hy,hr⟩:=hz.get hj
  refine ⟨h1 x (mem_of_getElem? hj),y,?_,hr⟩
  have:=hc _ y hy
  rw [←this]
  congr 1
  omega
theorem aDW (H:aX P ρ h w) {t e:TypeId} {zs:List Value} {type:TypeId} {s x s' x' v:Value} {h':ae} (ht:P.underlying t=some (.slice e)) (hz:zeroOf P e=some zs)
  (hi:dI e (P.cellsOf e) (P.bytesOf e) h s x=some (v,h')) (hs:ay ρ s s') (hx:ay ρ x x'):
  ∃w' av v',(Builtin.append_ #[t,t] type #[s',x']).run P w=.ok v' w'∧ay av v v'∧aX P av h' w'∧Tr ρ h w av h' w':=by
 obtain ⟨i,z,ow,qS,rfl,oA,fO,hlen⟩:=Dd hz
 have sY:=PJ ow
 have hbe:=Zl ow
 have R8:z.cells.size=i.size:=by rw [←hlen];simp [cR]
 unfold dI at hi
 split at hi
 ·rename_i news m hn hm
  have hxx:=Lt H hn hx
  have tz:m=0→(x'=.slice none 0 0∨∃a c2,x'=.slice (some a) 0 c2):=by
   intro qH
   rcases hxx with ⟨e1,_⟩ | ⟨b,o,n2,c2,e1,e2,_⟩
   ·exact .inl e1
   ·rw [hm] at e2;cases e2;subst qH;exact .inr ⟨_,_,e1⟩
  have aeZ:0<m→∃b o c2,x'=.slice (some ⟨b,o,none⟩) m c2∧news.length=m*i.size∧(∀v∈news,gN v=true)∧
    ∃ys,bF ρ news ys∧ys.length=m*i.size∧∀j v,ys[j]?=some v→w.cell? ((⟨b,o,none⟩:Addr).add j)=some v:=by
   intro qH
   rcases hxx with ⟨e1,e2⟩ | ⟨b,o,n2,c2,e1,e2,e3,e4,ys,e5,e6⟩
   ·subst e1
    cases hx
    ·simp [pe] at hm
     omega
    ·simp [pe] at hm
   ·rw [hm] at e2;cases e2
    refine ⟨b,o,c2,e1,by rw [e3,sY],e4,ys,e5,by rw [←e5.length,e3,sY],?_⟩
    intro j v hj
    rw [Addr.add_lit]
    exact e6 j v hj
  split at hi
  ·cases hs
   split at hi
   ·rename_i qH
    simp at hi
    obtain ⟨rfl,rfl⟩:=hi
    exact ⟨w,ρ,_,amy ht ow type none 0 0 x' (le_refl _) (tz qH),.q7,H,Tr.refl H⟩
   ·rename_i qH
    split at hi
    ·rename_i hb
     obtain ⟨lU,Ek⟩:=hb
     simp at hi
     obtain ⟨rfl,rfl⟩:=hi
     obtain ⟨b,o,c2,rfl,f1,f2,ys,f3,f4,f5⟩:=aeZ (by omega)
     have gq:=run_append_nil (P:=P) w t type e i z ht ow qS ⟨b,o,none⟩ m c2 ys f4 f5 (by omega) (by unfold maxLen at Ek;omega) (by rw [←hbe];omega)
     have cL:=grownCap_ge w m 0 e
     have zM:fS ρ (ys.toArray++Builtin.zeroCells z.cells (grownCap w m 0 e-m)) 0 news:=by
      have:=PK (ρ:=ρ) (c:=ys.toArray++Builtin.zeroCells z.cells (grownCap w m 0 e-m)) (xs:=[]) (ys:=ys) (zs:=news) (by simp) f3 f2 (by
       intro j y hj
       have aB:=(bL hj).1
       rw [Array.getElem?_append_left (by simpa using aB)]
       simpa using hj)
      simpa using this
     obtain ⟨q1,q2⟩:=Fh H (jZ.drew w (.cells (ys.toArray++Builtin.zeroCells z.cells (grownCap w m 0 e-m)) e)) zM
     refine ⟨_,_,_,gq,?_,q1,q2⟩
     refine FO ρ h.length ⟨w.heap.size,0,e,P.cellsOf e,(ys.toArray++Builtin.zeroCells z.cells (grownCap w m 0 e-m)).size⟩ rfl cL (grownCap_le_maxLen w m 0 e Ek) ?_
     simp only [Array.size_append,List.size_toArray,size_zeroCells,f4,R8,sY]
     rw [←add_mul]
     exact Nat.mul_le_mul_right _ (by omega)
    ·cases hi
  ·rename_i ii e' n cc
   split at hi
   ·rename_i e'' xs pV
    split at hi
    ·rename_i hb
     obtain ⟨rfl,rfl,hb3,hb4,hb5⟩:=hb
     have RL:=hs
     cases hs with
     | slice hr ho hnc hcm B4=>
      rename_i o' c' r
      obtain ⟨g1,g2,c,g3,g4,g5⟩:=H.arr hr pV
      obtain rfl:o'=0:=by
       rcases ho with ho | ⟨_,q,_⟩
       ·omega
       ·omega
      have jq:=H.aV _ _ hr
      split at hi
      ·rename_i qH
       simp at hi
       obtain ⟨rfl,rfl⟩:=hi
       exact ⟨w,ρ,_,amy ht ow type _ n c' x' hnc (tz qH),RL,H,Tr.refl H⟩
      ·rename_i qH
       simp at hi
       obtain ⟨rfl,rfl⟩:=hi
       obtain ⟨b,o,c2,rfl,f1,f2,ys,f3,f4,f5⟩:=aeZ (by omega)
       rw [sY] at hb3
       have Cb:r.aV=i.size:=by rw [jq,sY]
       have jr:cC h ii:=.inl ⟨_,xs,pV⟩
       by_cases RH:n+m≤c'
       ·have Jb:n*i.size+ys.length≤c.size:=by
         rw [f4,g4,←add_mul]
         have:=Nat.mul_le_mul_right i.size RH
         rw [Cb] at B4
         omega
        have gq:=run_append_room (P:=P) w t type r.elem i ht ow r.bu n c' c g3 ⟨b,o,none⟩ m c2 ys f4 f5 (f3.Fp f2) RH Jb
        have xX:(c.toList.take (n*i.size)++ys++c.toList.drop (n*i.size+ys.length)).toArray=(setAt c.toList (n*i.size) ys).toArray:=rfl
        rw [xX] at gq
        have kU:(setAt c.toList (n*i.size) ys).toArray.size=c.size:=by simp [VG (show n*i.size+ys.length≤c.toList.length by simpa using Jb)]
        have zM:fS ρ (setAt c.toList (n*i.size) ys).toArray 0 (xs++news):=by
         refine PK (ys:=ys) ?_ f3 f2 ?_
         ·intro j x hj
          have aB:=(bL hj).1
          obtain ⟨k1,y,k2,k3⟩:=g5 j x hj
          refine ⟨k1,y,?_,k3⟩
          rw [List.getElem?_toArray,Lm (by simpa using Jb),if_pos (by omega)]
          simpa using k2
         ·intro j y hj
          have aB:=(bL hj).1
          rw [List.getElem?_toArray,Lm (by simpa using Jb),if_neg (by omega),if_pos (by omega)]
          rw [←hj]
          congr 1
          omega
        have sb:=mW.row g3 (setAt c.toList (n*i.size) ys).toArray
        obtain ⟨q1,q2⟩:=H.move (o:=.arr r.elem (xs++news)) hr jr sb ⟨rfl,g2,_,sb.here,by rw [kU,g4],zM.mono (aI.wO H.none)⟩
        refine ⟨_,_,_,gq,?_,q1,q2⟩
        exact FO ρ h.length r g2 RH hcm (by omega)
       ·obtain ⟨Ti,o1,o2,o3,o4⟩:=g5.Wf (o:=0) (n:=n*i.size) (by omega)
        have ax4:(xs.drop 0).take (n*i.size)=xs:=by rw [List.drop_zero];exact List.take_of_length_le (by omega)
        rw [ax4] at o1 o3
        have hold:∀j v,Ti[j]?=some v→w.cell? ((⟨r.bu,0,none⟩:Addr).add j)=some v:=by
         intro j v hj
         rw [Addr.add_lit,Il g3]
         simpa using o4 j v hj
        have aea:=growslice_fits (need:=n+m) (old:=c') (bytes:=P.bytesOf r.elem) (by omega) hb4
        rw [hbe] at aea
        have gq:=run_append_grow (P:=P) w t type r.elem i z ht ow qS ⟨r.bu,0,none⟩ n c' Ti o2 hold ⟨b,o,none⟩ m c2 ys f4 f5 (by omega) (by unfold maxLen at hb5;omega) aea
        have cL:=grownCap_ge w (n+m) c' r.elem
        generalize zL:Ti.toArray++ys.toArray++Builtin.zeroCells z.cells (grownCap w (n+m) c' r.elem-(n+m))=cc at gq
        have awR:cc.size=n*i.size+m*i.size+(grownCap w (n+m) c' r.elem-(n+m))*i.size:=by
         rw [←zL];simp only [Array.size_append,List.size_toArray,size_zeroCells,o2,f4,R8]
        have zM:fS ρ cc 0 (xs++news):=by
         refine PK (ys:=ys) ?_ f3 f2 ?_
         ·intro j x hj
          have aB:=(bL hj).1
          obtain ⟨y,k2,k3⟩:=o1.get hj
          refine ⟨o3 x (mem_of_getElem? hj),y,?_,k3⟩
          rw [←zL,Array.append_assoc,Array.getElem?_append_left (by simp;omega)]
          simpa using k2
         ·intro j y hj
          have aB:=(bL hj).1
          rw [←zL,Array.append_assoc,Array.getElem?_append_right (by simp;omega),Array.getElem?_append_left (by simp;omega)]
          rw [←hj,List.getElem?_toArray]
          congr 1
          simp
          omega
        have nb:=jZ.drew w (.cells cc r.elem)
        obtain ⟨q1,q2⟩:=H.new (h₀:=h.set ii .dead) (o:=.arr r.elem (xs++news)) (r:=⟨w.heap.size,0,r.elem,P.cellsOf r.elem,cc.size⟩) nb rfl rfl (by simp) (by
          intro j
          by_cases hj:j=ii
          ·subst hj;right;rw [List.getElem?_set_self (H.lt hr)]
          ·left;rw [getElem?_set_ne (Ne.symm hj)]) ⟨rfl,rfl,cc,nb.new,rfl,zM.mono (aI.wO H.none)⟩
        refine ⟨_,_,_,gq,?_,q1,q2⟩
        refine FO ρ h.length ⟨w.heap.size,0,r.elem,P.cellsOf r.elem,cc.size⟩ rfl cL (grownCap_le_maxLen w (n+m) c' r.elem hb5) ?_
        simp only [awR,sY]
        rw [←add_mul,←add_mul]
        exact Nat.mul_le_mul_right _ (by omega)
    ·cases hi
   ·cases hi
  ·cases hi
 ·cases hi
theorem aD2 (H:aX P ρ h w) {t e tt:TypeId} {type:TypeId} {d x d' x' v:Value} {h':ae} (ht:P.underlying t=some (.slice e)) (hz:(P.info? e).map (·.size)=some 1) (hi:Sc h d x=some (v,h')) (hd:ay ρ d d') (hx:ay ρ x x'):
  ∃w',(Builtin.copy_ #[t,tt] type #[d',x']).run P w=.ok v w'∧ay ρ v v∧aX P ρ h' w'∧Tr ρ h w ρ h' w':=by
 unfold Sc at hi
 split at hi
 ·rename_i n m cs hn hm xX
  have qD:∃p c,d'=.slice p n c:=by
   unfold pe at hn
   split at hn
   ·cases hd;cases hn;exact ⟨_,_,rfl⟩
   ·cases hd;cases hn;exact ⟨_,_,rfl⟩
   ·cases hn
  have iz:∃p c,x'=.slice p m c:=by
   unfold pe at hm
   split at hm
   ·cases hx;cases hm;exact ⟨_,_,rfl⟩
   ·cases hx;cases hm;exact ⟨_,_,rfl⟩
   ·cases hm
  split at hi
  ·rename_i h0
   simp at hi
   obtain ⟨rfl,rfl⟩:=hi
   obtain ⟨p,c,rfl⟩:=qD
   obtain ⟨q,c',rfl⟩:=iz
   exact ⟨w,run_copy_none (P:=P) w t tt type e p q n c m c' ht hz h0,.int _ _,H,.refl H⟩
  ·rename_i h0
   split at hi
   ·rename_i i o e' n' c0
    split at hi
    ·rename_i e2 xs hg
     split at hi
     ·rename_i hle
      simp only [Option.some.injEq,Prod.mk.injEq] at hi
      obtain ⟨rfl,rfl⟩:=hi
      cases hd with
      | slice hr ho hn2 hc hb=>
       rename_i o' c' r
       simp [pe] at hn
       subst hn
       have iF:0<n':=by
        have:Nat.min m n'≤n':=Nat.min_le_right _ _
        omega
       have dN:o'=r.sh+o:=by
        rcases ho with ho | ⟨q1,q2,q3⟩
        ·exact ho
        ·omega
       subst dN
       obtain ⟨a1,a2,c,a3,a4,a5⟩:=H.arr hr hg
       rcases Lt H xX hx with ⟨rfl,rfl⟩ | ⟨b,ob,nn,cc,rfl,hl,hlen,B8,ys,Am,axm⟩
       ·obtain ⟨q,c',hq⟩:=iz
        cases hq
        exact absurd (Nat.zero_min n') h0
       ·rw [hm] at hl
        cases hl
        rw [Nat.mul_one] at hlen
        have ax6:=Am.length
        have aB:(ys.take (Nat.min m n')).length=Nat.min m n':=by
         rw [List.length_take,←ax6,hlen];exact Nat.min_eq_left (Nat.min_le_left _ _)
        have hct:(cs.take (Nat.min m n')).length=Nat.min m n':=by
         rw [List.length_take,hlen];exact Nat.min_eq_left (Nat.min_le_left _ _)
        have Aj:bF ρ (cs.take (Nat.min m n')) (ys.take (Nat.min m n')):=Am.take _
        have h1c:∀v∈cs.take (Nat.min m n'),gN v=true:=fun v hv=>B8 v (List.mem_of_mem_take hv)
        have gq:=run_copy_row (P:=P) w t tt type e r.bu (r.sh+o) n' c' ⟨b,ob,none⟩ m cc c e2 (ys.take (Nat.min m n')) ht hz a3 aB
         (fun j v hj=>by
          rw [List.getElem?_take] at hj
          split at hj
          ·rw [Addr.add_lit];exact axm j v hj
          ·cases hj) (by have:=a5.le;rw [aB,a2];omega) (Aj.Fp h1c)
        rw [aB,a2,zero_add] at gq
        have heq:(c.toList.take o++ys.take (Nat.min m n')++c.toList.drop (o+Nat.min m n')).toArray=(setAt c.toList o (ys.take (Nat.min m n'))).toArray:=by simp only [setAt,aB]
        rw [heq] at gq
        have jr:cC h i:=.inl ⟨e2,xs,hg⟩
        obtain ⟨q1,q2⟩:=H.set (o:=.arr e2 (setAt xs o (cs.take (Nat.min m n')))) hr jr (mW.row a3 (setAt c.toList o (ys.take (Nat.min m n'))).toArray)
         ⟨a1,a2,_,(mW.row a3 _).here,by simp [VG (show o+(ys.take (Nat.min m n')).length≤c.toList.length by have:=a5.le;simp only [Array.length_toList];omega),a4],a5.put Aj h1c (by omega)⟩
        refine ⟨_,?_,.int _ _,q1,q2⟩
        rw [a2,zero_add];exact gq
     ·cases hi
    ·cases hi
   ·cases hi
 ·cases hi
end
end
section
theorem mW.obj {w:World} {g:Nat} {x:Obj} (hg:w.heap[g]?=some x) (b:Obj):mW w g b { w with heap:=w.heap.setIfInBounds g b } where
 here:=by
  have:=(Array.getElem?_eq_some_iff.1 hg).1
  simp [this]
 other:=by intro j hj;simp [Ne.symm hj]
 size:=by simp
 os:=rfl
 tape:=rfl
 output:=rfl
theorem awl {ρ:aI} {es:List (ByteArray×Value)} {aH:List MapEntry} (h:mU ρ es aH) (k:ByteArray) {v v':Value} (hv:ay ρ v v') (born:Nat):∀i:Nat,
  (Instr.findNow .string (.string k) aH i=some none∧mU ρ (tS k v es) (aH++[{ key:=.string k,val:=v',born }]))∨
  (∃u j,Instr.findNow .string (.string k) aH i=some (some (i+j,u))∧(∃en,aH[j]?=some en∧en.key=.string k)∧mU ρ (tS k v es) (aH.modify j fun e=>{ e with key:=.string k,val:=v' })):=by
 induction h with
 | nil=>intro i;exact .inl ⟨rfl,.cons rfl hv .nil⟩
 | cons h1 h2 h3 ih=>
  rename_i k0 v0 en es aH
  intro i
  by_cases hk:k=k0
  ·subst hk
   have hb:(k==k)=true:=(MapKept.bytes_beq k k).2 rfl
   refine .inr ⟨en.val,0,?_,⟨en,rfl,h1⟩,?_⟩
   ·simp [Instr.findNow,h1,Instr.sameNow,hb]
   ·simp only [tS,if_true,List.modify_zero_cons]
    exact .cons rfl hv h3
  ·have hb:(k==k0)=false:=by
    rw [Bool.eq_false_iff]
    exact fun e=>hk ((MapKept.bytes_beq k k0).1 e)
   rcases ih (i+1) with ⟨e1,e2⟩ | ⟨u,j,e1,e2,e3⟩
   ·refine .inl ⟨?_,?_⟩
    ·simp [Instr.findNow,h1,Instr.sameNow,hb,e1]
    ·simp only [tS,if_neg hk,List.cons_append]
     exact .cons h1 h2 e2
   ·refine .inr ⟨u,j+1,?_,by simpa using e2,?_⟩
    ·simp [Instr.findNow,h1,Instr.sameNow,hb,e1];omega
    ·simp only [tS,if_neg hk,List.modify_succ_cons]
     exact .cons h1 h2 e3
theorem awm {kd:IntKind} {ρ:aI} {es:List (Int×Value)} {aH:List MapEntry} (h:mV kd ρ es aH) (k:Int) {v v':Value} (hv:ay ρ v v') (born:Nat):∀i:Nat,
  (Instr.findNow (.int kd) (.int kd k) aH i=some none∧mV kd ρ (oH k v es) (aH++[{ key:=.int kd k,val:=v',born }]))∨
  (∃u j,Instr.findNow (.int kd) (.int kd k) aH i=some (some (i+j,u))∧(∃en,aH[j]?=some en∧en.key=.int kd k)∧mV kd ρ (oH k v es) (aH.modify j fun e=>{ e with key:=.int kd k,val:=v' })):=by
 induction h with
 | nil=>intro i;exact .inl ⟨rfl,.cons rfl hv .nil⟩
 | cons h1 h2 h3 ih=>
  rename_i k0 v0 en es aH
  intro i
  by_cases hk:k=k0
  ·subst hk
   have hb:(k==k)=true:=beq_self_eq_true k
   refine .inr ⟨en.val,0,?_,⟨en,rfl,h1⟩,?_⟩
   ·simp [Instr.findNow,h1,Instr.sameNow]
   ·simp only [oH,if_true,List.modify_zero_cons]
    exact .cons rfl hv h3
  ·have hb:(k==k0)=false:=by
    exact beq_false_of_ne hk
   rcases ih (i+1) with ⟨e1,e2⟩ | ⟨u,j,e1,e2,e3⟩
   ·refine .inl ⟨?_,?_⟩
    ·simp [Instr.findNow,h1,Instr.sameNow,hb,e1]
    ·simp only [oH,if_neg hk,List.cons_append]
     exact .cons h1 h2 e2
   ·refine .inr ⟨u,j+1,?_,by simpa using e2,?_⟩
    ·simp [Instr.findNow,h1,Instr.sameNow,hb,e1];omega
    ·simp only [oH,if_neg hk,List.modify_succ_cons]
     exact .cons h1 h2 e3
section
variable {P : Program} {w : World} {ρ : aI} {h : ae}
theorem aEf (H:aX P ρ h w) (t:TypeId):∃w' av v',(Instr.makeMap t none).run P w=.ok v' w'∧ay av (.map (some h.length)) v'∧aX P av (h++[.smap []]) w'∧Tr ρ h w av (h++[.smap []]) w':=by
 have nb:=jZ.alloc w (.map #[] 0)
 obtain ⟨q1,q2⟩:=H.new (h₀:=h) (o:=.smap []) (r:=⟨w.heap.size,0,0,P.cellsOf 0,0⟩) nb rfl rfl rfl (fun _=>.inl rfl) ⟨#[],0,nb.new,rfl,fun j k v hj=>by simp at hj⟩
 refine ⟨_,_,.map (some w.heap.size),?_,ay.map (BC _ _ _),q1,q2⟩
 simp [Instr.makeMap]
theorem aEh (H:aX P ρ h w) (t:TypeId) (kd:IntKind):∃w' av v',(Instr.makeMap t none).run P w=.ok v' w'∧ay av (.map (some h.length)) v'∧aX P av (h++[.eP kd []]) w'∧Tr ρ h w av (h++[.eP kd []]) w':=by
 have nb:=jZ.alloc w (.map #[] 0)
 obtain ⟨q1,q2⟩:=H.new (h₀:=h) (o:=.eP kd []) (r:=⟨w.heap.size,0,0,P.cellsOf 0,0⟩) nb rfl rfl rfl (fun _=>.inl rfl) ⟨#[],0,nb.new,rfl,fun j k v hj=>by simp at hj⟩
 refine ⟨_,_,.map (some w.heap.size),?_,ay.map (BC _ _ _),q1,q2⟩
 simp [Instr.makeMap]
theorem yC {g:Nat} {aH:Array MapEntry} {clock:Nat} (hg:w.heap[g]?=some (.map aH clock)) (o:Obj):(setObj g o).run P w=.ok () { w with heap:=w.heap.setIfInBounds g o }:=by
 simp [setObj,Sem.run,hg]
theorem amD (H:aX P ρ h w) {t kt et:TypeId} {m m' k k' v v':Value} {h':ae} (ht:P.underlying t=some (.map kt et)) (hk:isString P kt=true)
  (hi:Sf h m k v=some h') (hm:ay ρ m m') (qE:ay ρ k k') (hv:ay ρ v v'):∃w',(Instr.mapUpdate t m' k' v').run P w=.ok () w'∧aX P ρ h' w'∧Tr ρ h w ρ h' w':=by
 unfold Sf at hi
 split at hi
 ·rename_i i key
  rw [qE.xe]
  cases hm with
  | map hr=>
   rename_i r
   split at hi
   ·rename_i es he
    simp at hi;subst hi
    obtain ⟨aH,clock,hb,zT⟩:=H.aH hr he
    have mD:=afC hk
    have jr:cC h i:=.inr (.inl ⟨es,he⟩)
    have mk:∀(qv:Array MapEntry) (sQ:Nat),mU ρ (tS key v es) qv.toList→aX P ρ (h.set i (.smap (tS key v es))) { w with heap:=w.heap.setIfInBounds r.bu (.map qv sQ) }∧
      Tr ρ h w ρ (h.set i (.smap (tS key v es))) { w with heap:=w.heap.setIfInBounds r.bu (.map qv sQ) }:=by
     intro qv sQ fK
     have sb:=mW.obj hb (.map qv sQ)
     have:=fK.to
     exact H.set (o:=.smap (tS key v es)) hr jr sb ⟨qv,sQ,sb.here,by simpa using this.1,by simpa using this.2⟩
    rcases awl zT key hv clock 0 with ⟨e1,e2⟩ | ⟨u,j,e1,⟨en,e2,zt⟩,e3⟩
    ·obtain ⟨q1,q2⟩:=mk (aH.push { key:=.string key,val:=v',born:=clock }) (clock+1) (by simpa using e2)
     refine ⟨_,?_,q1,q2⟩
     simp [Instr.mapUpdate,run_underlying ht,run_getObj_map hb,run_checkKey _ mD,run_findKey mD key _ e1,yC hb]
    ·obtain ⟨q1,q2⟩:=mk (aH.modify j fun e=>{ e with key:=.string key,val:=v' }) clock (by simpa using e3)
     refine ⟨_,?_,q1,q2⟩
     have bQ:aH[j]?=some en:=by simpa using e2
     have Ag:Instr.sameBits 10000 (.string key) (.string key)=true:=by
      simp [Instr.sameBits,(MapKept.bytes_beq key key).2 rfl]
     have EI:(Instr.keyThatStays (((aH[j]?).map (·.key)).getD (.string key)) (.string key)).run P w=.ok (.string key) w:=by
      rw [bQ]
      simp [Instr.keyThatStays,zt,Ag]
     simp only [Instr.mapUpdate,Sem.run_bind,run_underlying ht,Result.andThen_ok,run_getObj_map hb,run_checkKey _ mD,run_findKey mD key _ e1]
     simp only [zero_add,EI,Result.andThen_ok,yC hb]
   ·cases hi
 ·cases hi
theorem amF (H:aX P ρ h w) {t kt et:TypeId} {kd:IntKind} {m m' k k' v v':Value} {h':ae} (ht:P.underlying t=some (.map kt et)) (hk:Ay P kt=some kd)
  (hi:EW kd h m k v=some h') (hm:ay ρ m m') (qE:ay ρ k k') (hv:ay ρ v v'):∃w',(Instr.mapUpdate t m' k' v').run P w=.ok () w'∧aX P ρ h' w'∧Tr ρ h w ρ h' w':=by
 unfold EW at hi
 split at hi
 ·rename_i i Cw key
  rw [qE.mK]
  cases hm with
  | map hr=>
   rename_i r
   split at hi
   ·rename_i nK es he
    split at hi
    ·rename_i oW
     obtain ⟨rfl,rfl⟩:=oW
     simp at hi;subst hi
     obtain ⟨aH,clock,hb,zT⟩:=H.ac9 hr he
     have mD:=afz hk
     have jr:cC h i:=.inr (.inr (.inr (.inl ⟨_,es,he⟩)))
     have mk:∀(qv:Array MapEntry) (sQ:Nat),mV nK ρ (oH key v es) qv.toList→aX P ρ (h.set i (.eP nK (oH key v es))) { w with heap:=w.heap.setIfInBounds r.bu (.map qv sQ) }∧
       Tr ρ h w ρ (h.set i (.eP nK (oH key v es))) { w with heap:=w.heap.setIfInBounds r.bu (.map qv sQ) }:=by
      intro qv sQ fK
      have sb:=mW.obj hb (.map qv sQ)
      have:=fK.to
      exact H.set (o:=.eP nK (oH key v es)) hr jr sb ⟨qv,sQ,sb.here,by simpa using this.1,by simpa using this.2⟩
     rcases awm zT key hv clock 0 with ⟨e1,e2⟩ | ⟨u,j,e1,⟨en,e2,zt⟩,e3⟩
     ·obtain ⟨q1,q2⟩:=mk (aH.push { key:=.int nK key,val:=v',born:=clock }) (clock+1) (by simpa using e2)
      refine ⟨_,?_,q1,q2⟩
      simp [Instr.mapUpdate,run_underlying ht,run_getObj_map hb,Lh _ mD,Li mD key _ e1,yC hb]
     ·obtain ⟨q1,q2⟩:=mk (aH.modify j fun e=>{ e with key:=.int nK key,val:=v' }) clock (by simpa using e3)
      refine ⟨_,?_,q1,q2⟩
      have bQ:aH[j]?=some en:=by simpa using e2
      have Ag:∀kd,Instr.sameBits 10000 (.int kd key) (.int kd key)=true:=by
       intro kd
       simp [Instr.sameBits]
      have EI:(Instr.keyThatStays (((aH[j]?).map (·.key)).getD (.int nK key)) (.int nK key)).run P w=.ok (.int nK key) w:=by
       rw [bQ]
       simp [Instr.keyThatStays,zt,Ag]
      simp only [Instr.mapUpdate,Sem.run_bind,run_underlying ht,Result.andThen_ok,run_getObj_map hb,Lh _ mD,Li mD key _ e1]
      simp only [zero_add,EI,Result.andThen_ok,yC hb]
    ·cases hi
   ·cases hi
 ·cases hi
theorem aEg (H:aX P ρ h w) (t:TypeId) (g:fM):∃w' av v',(Instr.makeMap t none).run P w=.ok v' w'∧ay av (.map (some h.length)) v'∧aX P av (h++[.df g 0 []]) w'∧Tr ρ h w av (h++[.df g 0 []]) w':=by
 have nb:=jZ.alloc w (.map #[] 0)
 obtain ⟨q1,q2⟩:=H.new (h₀:=h) (o:=.df g 0 []) (r:=⟨w.heap.size,0,0,P.cellsOf 0,0⟩) nb rfl rfl rfl (fun _=>.inl rfl) ⟨by simp,#[],nb.new,rfl,fun j b k v hj=>by simp at hj⟩
 refine ⟨_,_,.map (some w.heap.size),?_,ay.map (BC _ _ _),q1,q2⟩
 simp [Instr.makeMap]
theorem sK.set {g:fM} {c:Nat} {es:List (Nat×Value×Value)} {aH:Array MapEntry} (E:sK ρ g es aH) {k v v':Value} (hk:fe g k=true) (hv:ay ρ v v'):
  (mi k es=none→sK ρ g (es++[(c,k,v)]) (aH.push { key:=k,val:=v',born:=c }))∧∀j b u,mi k es=some j→es[j]?=some (b,k,u)→sK ρ g (es.modify j fun e=>(e.1,k,v)) (aH.modify j fun e=>{ e with key:=k,val:=v' }):=by
 constructor
 ·intro hp
  have dB:∀e∈es,e.2.1≠k:=by
   rcases KW hk es with ⟨_,h2⟩ | ⟨j,e,h1,_⟩
   ·exact h2
   ·rw [hp] at h1;cases h1
  refine ⟨by simp [E.size],?_,?_⟩
  ·rw [List.map_append,List.nodup_append]
   refine ⟨E.nodup,by simp,?_⟩
   intro a ha b hb
   obtain ⟨e,he,rfl⟩:=List.mem_map.1 ha
   simp at hb
   subst hb
   exact dB e he
  ·intro j b k1 v1 hj
   by_cases aB:j<es.length
   ·rw [getElem?_append_left aB] at hj
    obtain ⟨g1,en,g2,g3⟩:=E.get j b k1 v1 hj
    exact ⟨g1,en,by rw [Array.getElem?_push_lt (by rw [E.size];exact aB)];rw [getElem?_eq_getElem (by rw [E.size];exact aB)] at g2;exact g2,g3⟩
   ·rw [List.getElem?_append_right (by omega)] at hj
    have nG:j=es.length:=by
     have:=(bL hj).1
     simp at this
     omega
    subst nG
    simp at hj
    obtain ⟨rfl,rfl,rfl⟩:=hj
    exact ⟨hk,{ key:=k,val:=v',born:=c },by rw [←E.size];simp,rfl,rfl,hv⟩
 ·intro j b u hp hj
  have axk:((es.modify j fun e=>(e.1,k,v)).map fun e=>e.2.1)=es.map fun e=>e.2.1:=by
   apply List.ext_getElem?
   intro i
   simp only [List.getElem?_map,List.getElem?_modify]
   by_cases fX:j=i
   ·subst fX;simp [hj]
   ·simp [fX]
  refine ⟨by simp [E.size],by rw [axk];exact E.nodup,?_⟩
  intro i b1 k1 v1 hi
  rw [List.getElem?_modify] at hi
  by_cases fX:j=i
  ·subst fX
   simp [hj] at hi
   obtain ⟨rfl,rfl,rfl⟩:=hi
   obtain ⟨g1,en,g2,g3,g4,_⟩:=E.get j b k u hj
   refine ⟨hk,{ en with key:=k,val:=v' },?_,rfl,g4,hv⟩
   rw [Array.getElem?_modify]
   simp [g2]
  ·simp [fX] at hi
   obtain ⟨g1,en,g2,g3⟩:=E.get i b1 k1 v1 hi
   refine ⟨g1,en,?_,g3⟩
   rw [Array.getElem?_modify]
   simp [fX,g2]
theorem amE (H:aX P ρ h w) {t:TypeId} {g:fM} {m m' k k' v v':Value} {h':ae} (hg:rL P t=some g)
  (hi:Cr g h m k v=some h') (hm:ay ρ m m') (qE:ay ρ k k') (hv:ay ρ v v'):∃w',(Instr.mapUpdate t m' k' v').run P w=.ok () w'∧aX P ρ h' w'∧Tr ρ h w ρ h' w':=by
 obtain ⟨kt,et,ht,L⟩:=IW hg
 unfold Cr at hi
 split at hi
 ·rename_i i
  cases hm with
  | map hr=>
   rename_i r
   split at hi
   ·rename_i g' c es he
    split at hi
    ·rename_i oW
     obtain ⟨rfl,hk,_⟩:=oW
     simp at hi;subst hi
     rw [qE.key hk]
     obtain ⟨aH,hb,E⟩:=H.BO hr he
     have jr:cC h i:=.inr (.inr (.inr (.inr (.inl ⟨_,_,es,he⟩))))
     obtain ⟨S1,S2⟩:=E.set (c:=c) hk hv
     rcases Vv (w:=w) L E hk with ⟨⟨e1,_⟩,e2⟩ | ⟨j,b,u,en,e1,e2,e3,e4,e5,e6,e7⟩
     ·have E':=S1 e1
      have sb:=mW.obj hb (.map (aH.push { key:=k,val:=v',born:=c }) (c+1))
      have lX:mj c k v es=es++[(c,k,v)]:=by simp [mj,e1]
      have QR:oS c k es=c+1:=by simp [oS,e1]
      obtain ⟨q1,q2⟩:=H.set (o:=.df g' (oS c k es) (mj c k v es)) hr jr sb (by rw [lX,QR];exact ⟨E'.nodup,_,sb.here,E'.size,E'.get⟩)
      refine ⟨_,?_,q1,q2⟩
      simp [Instr.mapUpdate,run_underlying ht,run_getObj_map hb,L.check w _ k hk,e2,yC hb]
     ·have E':=S2 j b u e1 e2
      have sb:=mW.obj hb (.map (aH.modify j fun e=>{ e with key:=k,val:=v' }) c)
      have lX:mj c k v es=es.modify j fun e=>(e.1,k,v):=by simp [mj,e1]
      have QR:oS c k es=c:=by simp [oS,e1]
      obtain ⟨q1,q2⟩:=H.set (o:=.df g' (oS c k es) (mj c k v es)) hr jr sb (by rw [lX,QR];exact ⟨E'.nodup,_,sb.here,E'.size,E'.get⟩)
      refine ⟨_,?_,q1,q2⟩
      have EI:(Instr.keyThatStays (((aH[j]?).map (·.key)).getD k) k).run P w=.ok k w:=by
       rw [e3]
       simp [e4,L.stays w k hk]
      simp only [Instr.mapUpdate,Sem.run_bind,run_underlying ht,Result.andThen_ok,run_getObj_map hb,L.check w _ k hk,e7]
      simp only [EI,Result.andThen_ok,yC hb]
    ·cases hi
   ·cases hi
 ·cases hi
theorem sK.era {g:fM} {es:List (Nat×Value×Value)} {aH:Array MapEntry} (E:sK ρ g es aH) {j:Nat} (hj:j<es.length):sK ρ g (es.eraseIdx j) (aH.eraseIdxIfInBounds j):=by
 have aB:j<aH.size:=by rw [E.size];exact hj
 have he:aH.eraseIdxIfInBounds j=aH.eraseIdx j aB:=by simp [Array.eraseIdxIfInBounds,aB]
 rw [he]
 refine ⟨by rw [Array.size_eraseIdx,List.length_eraseIdx,if_pos hj,E.size],?_,?_⟩
 ·refine List.Nodup.sublist ?_ E.nodup
  exact (List.eraseIdx_sublist _ _).map _
 ·intro i b k v hi
  rw [List.getElem?_eraseIdx] at hi
  split at hi
  ·rename_i fX
   obtain ⟨g1,en,g2,g3⟩:=E.get i b k v hi
   exact ⟨g1,en,by rw [Array.getElem?_eraseIdx,if_pos fX];exact g2,g3⟩
  ·rename_i fX
   obtain ⟨g1,en,g2,g3⟩:=E.get (i+1) b k v hi
   exact ⟨g1,en,by rw [Array.getElem?_eraseIdx,if_neg fX];exact g2,g3⟩
theorem aD3 (H:aX P ρ h w) {t ty:TypeId} {ts:Array TypeId} {g:fM} {m m' k k':Value} {h':ae} (EL:ts[0]?=some t) (hg:rL P t=some g)
  (hi:EU g h m k=some h') (hm:ay ρ m m') (qE:ay ρ k k'):∃w',(Builtin.delete_ ts ty #[m',k']).run P w=.ok (.tuple #[]) w'∧aX P ρ h' w'∧Tr ρ h w ρ h' w':=by
 obtain ⟨kt,et,ht,L⟩:=IW hg
 unfold EU at hi
 split at hi
 ·rename_i i
  cases hm with
  | map hr=>
   rename_i r
   split at hi
   ·rename_i g' c es he
    split at hi
    ·rename_i oW
     obtain ⟨rfl,hk⟩:=oW
     simp at hi;subst hi
     rw [qE.key hk]
     obtain ⟨aH,hb,E⟩:=H.BO hr he
     have jr:cC h i:=.inr (.inr (.inr (.inr (.inl ⟨_,_,es,he⟩))))
     rcases Vv (w:=w) L E hk with ⟨⟨e1,_⟩,e2⟩ | ⟨j,b,u,en,e1,e2,e3,e4,e5,e6,e7⟩
     ·have sb:=mW.obj hb (.map aH c)
      have lX:rH k es=es:=by simp [rH,e1]
      obtain ⟨q1,q2⟩:=H.set (o:=.df g' c (rH k es)) hr jr sb (by rw [lX];exact ⟨E.nodup,_,sb.here,E.size,E.get⟩)
      refine ⟨_,?_,q1,q2⟩
      simp [Builtin.delete_,EL,run_underlying ht,run_getObj_map hb,L.check w _ k hk,e2,yC hb]
     ·have E':=E.era (bL e2).1
      have sb:=mW.obj hb (.map (aH.eraseIdxIfInBounds j) c)
      have lX:rH k es=es.eraseIdx j:=by simp [rH,e1]
      obtain ⟨q1,q2⟩:=H.set (o:=.df g' c (rH k es)) hr jr sb (by rw [lX];exact ⟨E'.nodup,_,sb.here,E'.size,E'.get⟩)
      refine ⟨_,?_,q1,q2⟩
      simp [Builtin.delete_,EL,run_underlying ht,run_getObj_map hb,L.check w _ k hk,e7,yC hb]
    ·cases hi
   ·cases hi
 ·cases hi
theorem aEk (H:aX P ρ h w) {t:TypeId} {g:fM} {x x' v:Value} {h':ae} (hg:rL P t=some g) (hi:Cs h x=some (v,h')) (hx:ay ρ x x'):
  ∃w' av v',(Instr.range t x').run P w=.ok v' w'∧ay av v v'∧aX P av h' w'∧Tr ρ h w av h' w':=by
 obtain ⟨kt,et,ht,L⟩:=IW hg
 unfold Cs at hi
 split at hi
 ·rename_i i
  cases hx with
  | map hr=>
   rename_i r
   split at hi
   ·rename_i g' c es he
    simp at hi
    obtain ⟨rfl,rfl⟩:=hi
    obtain ⟨aH,hb,E⟩:=H.BO hr he
    have nb:=jZ.alloc w (.mapIter (some r.bu) c #[] c)
    have bm:i≠h.length:=by
     have:=(bL he).1
     omega
    obtain ⟨q1,q2⟩:=H.new (h₀:=h) (o:=.iter i c [] c) (r:=⟨w.heap.size,0,0,P.cellsOf 0,0⟩) nb rfl rfl rfl (fun _=>.inl rfl)
     ⟨rfl,r,by simp [aI.add,bm,hr],nb.new⟩
    refine ⟨_,_,.pointer (some ⟨w.heap.size,0,none⟩),?_,?_,q1,q2⟩
    ·simp [Instr.range,run_underlying ht,run_getObj_map hb,newObj,Sem.run,Result.andThen]
    ·exact ay.ptr (o:=0) (BC _ _ _)
   ·cases hi
 ·cases hi
theorem kl.val {v v':Value} {h':ae} {s:Result Next} {w':World} {av:aI} (e:s=.ok (.value v') w') (a:ay av v v') (b:aX P av h' w') (c:Tr ρ h w av h' w'):kl P ρ h w v h' s:=
 ⟨_,_,_,_,e,.inl rfl,a,b,c⟩
theorem kl.skip {h':ae} {s:Result Next} {w':World} (e:s=.ok .skip w') (b:aX P ρ h' w') (c:Tr ρ h w ρ h' w'):kl P ρ h w undef h' s:=
 ⟨_,_,_,_,e,.inr ⟨rfl,rfl⟩,ay.undef _,b,c⟩
theorem avU {o:Oper} {eo:pB} {g g':Operand→Value} (hc:iN P o.op=some eo) (aC:o.op.operands.all jy=true) (H:aX P ρ h w)
  (hg:∀x,jy x=true→ay ρ (g x) (g' x)) {v:Value} {h':ae} (hi:fY eo g h=some (v,h')):kl P ρ h w v h' ((execOp g' o).run P w):=by
 cases ho:o.op with
 | store t a x=>
  rw [ho] at hc aC
  simp [Op.operands] at aC
  simp only [iN] at hc
  split at hc
  ·rename_i hk
   simp at hc;subst hc
   simp only [fY,map_eq_some_iff,Prod.mk.injEq] at hi
   obtain ⟨aU,hi,rfl,rfl⟩:=hi
   obtain ⟨w',q1,q2,q3⟩:=aEn H hk hi (hg a aC.1) (hg x aC.2)
   exact kl.skip (w':=w') (by simp [execOp,ho,q1]) q2 q3
  ·cases hc
 | box e x=>
  rw [ho] at hc aC
  simp [Op.operands] at aC
  simp [iN] at hc;subst hc
  obtain ⟨w',av,v',q1,q2,q3,q4⟩:=aDZ H hi (hg x aC)
  exact kl.val (v':=v') (w':=w') (by simp [execOp,ho,q1]) q2 q3 q4
 | alloc e=>
  rw [ho] at hc
  simp only [iN,map_eq_some_iff] at hc
  obtain ⟨zs,hz,rfl⟩:=hc
  simp [fY] at hi
  obtain ⟨rfl,rfl⟩:=hi
  obtain ⟨w',av,v',q1,q2,q3,q4⟩:=aDV H hz
  exact kl.val (v':=v') (w':=w') (by simp [execOp,ho,q1]) q2 q3 q4
 | buildSlice t n ps=>
  rw [ho] at hc aC
  simp only [iN] at hc
  simp only [Op.operands] at aC
  split at hc
  ·rename_i e ht
   split at hc
   ·rename_i zs hz
    split at hc
    ·rename_i hb
     simp at hc;subst hc
     have hq:∀q∈ps.toList,jy q.2=true:=by
      intro q hm
      rw [Array.all_eq_true'] at aC
      exact aC q.2 (by simp;exact ⟨q.1,by simpa using hm⟩)
     have hp:=US hg (fun i=>(i*P.cellsOf e,P.cellsOf e)) ps.toList hq
     obtain ⟨w',av,v',q1,q2,q3,q4⟩:=aEi H ht hz hb.1 hb.2 (qs:=ps.map fun (i,x)=>(i,g' x)) (by simpa using hp) hi
     exact kl.val (v':=v') (w':=w') (by simp [execOp,ho,q1]) q2 q3 q4
    ·cases hc
   ·cases hc
  ·cases hc
 | makeSlice t l c=>
  rw [ho] at hc aC
  simp [Op.operands] at aC
  simp only [iN] at hc
  split at hc
  ·rename_i e ht
   split at hc
   ·rename_i zs hz
    simp at hc;subst hc
    obtain ⟨w',av,v',q1,q2,q3,q4⟩:=aEe H ht hz hi (hg l aC.1) (hg c aC.2)
    exact kl.val (v':=v') (w':=w') (by simp [execOp,ho,q1]) q2 q3 q4
   ·cases hc
  ·cases hc
 | range t x=>
  rw [ho] at hc aC
  simp [Op.operands] at aC
  simp only [iN,map_eq_some_iff] at hc
  obtain ⟨g,kS,rfl⟩:=hc
  obtain ⟨w',av,v',q1,q2,q3,q4⟩:=aEk H kS hi (hg x aC)
  exact kl.val (v':=v') (w':=w') (by simp [execOp,ho,q1]) q2 q3 q4
 | next it b=>
  rw [ho] at hc
  cases b with
  | false=>simp [iN] at hc;subst hc;simp [fY] at hi
  | true=>simp [iN] at hc
 | makeMap t r=>
  rw [ho] at hc
  cases r with
  | none=>
   cases kS:rL P t with
   | some g=>
    simp only [iN,kS,Option.some.injEq] at hc
    subst hc
    simp [fY] at hi
    obtain ⟨rfl,rfl⟩:=hi
    obtain ⟨w',av,v',q1,q2,q3,q4⟩:=aEg H t g
    exact kl.val (v':=v') (w':=w') (by simp [execOp,ho,q1]) q2 q3 q4
   | none=>
   have two:eo=.mkMap∨∃kd,eo=.J8 kd:=by
    simp only [iN,kS] at hc
    split at hc
    ·split at hc
     ·simp at hc;exact .inr ⟨_,hc.symm⟩
     ·simp at hc;exact .inl hc.symm
    ·simp at hc;exact .inl hc.symm
   rcases two with rfl | ⟨kd,rfl⟩
   ·simp [fY] at hi
    obtain ⟨rfl,rfl⟩:=hi
    obtain ⟨w',av,v',q1,q2,q3,q4⟩:=aEf H t
    exact kl.val (v':=v') (w':=w') (by simp [execOp,ho,q1]) q2 q3 q4
   ·simp [fY] at hi
    obtain ⟨rfl,rfl⟩:=hi
    obtain ⟨w',av,v',q1,q2,q3,q4⟩:=aEh H t kd
    exact kl.val (v':=v') (w':=w') (by simp [execOp,ho,q1]) q2 q3 q4
  | some r=>simp [iN] at hc
 | mapUpdate t m k x=>
  rw [ho] at hc aC
  simp [Op.operands] at aC
  simp only [iN] at hc
  split at hc
  ·rename_i g kS
   simp at hc;subst hc
   simp only [fY,map_eq_some_iff,Prod.mk.injEq] at hi
   obtain ⟨aU,hi,rfl,rfl⟩:=hi
   obtain ⟨w',q1,q2,q3⟩:=amE H kS hi (hg m aC.1) (hg k aC.2.1) (hg x aC.2.2)
   exact kl.skip (w':=w') (by simp [execOp,ho,q1]) q2 q3
  split at hc
  ·rename_i kt et ht
   split at hc
   ·rename_i hk
    simp at hc;subst hc
    simp only [fY,map_eq_some_iff,Prod.mk.injEq] at hi
    obtain ⟨aU,hi,rfl,rfl⟩:=hi
    obtain ⟨w',q1,q2,q3⟩:=amD H ht hk hi (hg m aC.1) (hg k aC.2.1) (hg x aC.2.2)
    exact kl.skip (w':=w') (by simp [execOp,ho,q1]) q2 q3
   ·simp only [map_eq_some_iff] at hc
    obtain ⟨kd,oW,rfl⟩:=hc
    simp only [fY,map_eq_some_iff,Prod.mk.injEq] at hi
    obtain ⟨aU,hi,rfl,rfl⟩:=hi
    obtain ⟨w',q1,q2,q3⟩:=amF H ht oW hi (hg m aC.1) (hg k aC.2.1) (hg x aC.2.2)
    exact kl.skip (w':=w') (by simp [execOp,ho,q1]) q2 q3
  ·cases hc
 | insert t m k x=>
  rw [ho] at hc aC
  simp [Op.operands] at aC
  simp only [iN] at hc
  split at hc
  ·rename_i g kS
   simp at hc;subst hc
   simp only [fY,map_eq_some_iff,Prod.mk.injEq] at hi
   obtain ⟨aU,hi,rfl,rfl⟩:=hi
   obtain ⟨w',q1,q2,q3⟩:=amE H kS hi (hg m aC.1) (hg k aC.2.1) (hg x aC.2.2)
   exact kl.skip (w':=w') (by simp [execOp,ho,q1]) q2 q3
  split at hc
  ·rename_i kt et ht
   split at hc
   ·rename_i hk
    simp at hc;subst hc
    simp only [fY,map_eq_some_iff,Prod.mk.injEq] at hi
    obtain ⟨aU,hi,rfl,rfl⟩:=hi
    obtain ⟨w',q1,q2,q3⟩:=amD H ht hk hi (hg m aC.1) (hg k aC.2.1) (hg x aC.2.2)
    exact kl.skip (w':=w') (by simp [execOp,ho,q1]) q2 q3
   ·simp only [map_eq_some_iff] at hc
    obtain ⟨kd,oW,rfl⟩:=hc
    simp only [fY,map_eq_some_iff,Prod.mk.injEq] at hi
    obtain ⟨aU,hi,rfl,rfl⟩:=hi
    obtain ⟨w',q1,q2,q3⟩:=amF H ht oW hi (hg m aC.1) (hg k aC.2.1) (hg x aC.2.2)
    exact kl.skip (w':=w') (by simp [execOp,ho,q1]) q2 q3
  ·cases hc
 | call c=>
  rw [ho] at hc aC
  obtain ⟨callee,args,argTypes⟩:=c
  cases callee with
  | builtin b=>
   cases b with
   | append=>
    simp only [iN] at hc
    split at hc
    ·rename_i s x t t' hx wE
     obtain rfl:args=#[s,x]:=ext' hx
     obtain rfl:argTypes=#[t,t']:=ext' wE
     simp [Op.operands,Call.operands] at aC
     split at hc
     ·rename_i hte
      subst hte
      split at hc
      ·rename_i e ht
       split at hc
       ·rename_i zs hz
        simp at hc;subst hc
        obtain ⟨w',av,v',q1,q2,q3,q4⟩:=aDW (type:=o.type) H ht hz hi (hg s aC.1) (hg x aC.2)
        exact kl.val (v':=v') (w':=w') (by simp [execOp,ho,resolve,invoke,builtin,q1]) q2 q3 q4
       ·cases hc
      ·cases hc
     ·cases hc
    ·cases hc
   | copy=>
    simp only [iN] at hc
    split at hc
    ·rename_i d x t t' hx wE
     obtain rfl:args=#[d,x]:=ext' hx
     obtain rfl:argTypes=#[t,t']:=ext' wE
     simp [Op.operands,Call.operands] at aC
     split at hc
     ·rename_i e ht
      split at hc
      ·rename_i hz
       simp at hc;subst hc
       obtain ⟨w',q1,q2,q3,q4⟩:=aD2 (tt:=t') (type:=o.type) H ht hz hi (hg d aC.1) (hg x aC.2)
       exact kl.val (v':=v) (w':=w') (by simp [execOp,ho,resolve,invoke,builtin,q1]) q2 q3 q4
      ·cases hc
     ·cases hc
    ·cases hc
   | delete=>
    simp only [iN] at hc
    split at hc
    ·rename_i m k t hx wE
     obtain rfl:args=#[m,k]:=ext' hx
     simp [Op.operands,Call.operands] at aC
     simp only [map_eq_some_iff] at hc
     obtain ⟨g,kS,rfl⟩:=hc
     simp only [fY,map_eq_some_iff,Prod.mk.injEq] at hi
     obtain ⟨aU,hi,rfl,rfl⟩:=hi
     obtain ⟨w',q1,q2,q3⟩:=aD3 (ty:=o.type) H wE kS hi (hg m aC.1) (hg k aC.2)
     exact kl.val (v':=.tuple #[]) (w':=w') (by simp [execOp,ho,resolve,invoke,builtin,q1]) (ay.undef _) q2 q3
    ·cases hc
   | _=>simp [iN] at hc
  | _=>simp [iN] at hc
 | panic x=>rw [ho] at hc;simp [iN] at hc;subst hc;simp [fY] at hi
 | makeInterface t x=>rw [ho] at hc;simp [iN] at hc;subst hc;simp [fY] at hi
 | _=>rw [ho] at hc;simp [iN] at hc
end
end
section
inductive hO where
 | p (o:ql)
 | l (o:pC)
 | e (o:pB)
 | call (f:FuncId) (args:List Operand)
 | lh (x:Operand) (args:List Operand)
structure iZ where
 dst:Option Nat
 op:hO
 guard:Option (Nat×Bool)
structure jj where
 dst:Option Nat
 op:hO
structure cS where
 op:iZ
 pre:Nat
structure km where
 dst:Option Nat
 op:hO
 pre:Nat
inductive fc where
 | skip
 | Ix (l:List (Option (Nat×Bool)×List km))
 | ops (g:Option (Nat×Bool)) (l:List jj)
 | seq (a b:fc)
 | cut (ls:List Nat) (c:fc)
 | cond (c:Operand) (a b:fc)
 | block (id:Nat) (c:fc)
 | loop (ks ls:List Nat) (c:fc)
 | exit (id:Nat)
 | ret
 | range (g:Operand) (ls:List Nat) (c:Ds)
abbrev FR (R:Option Nat):Fence:={ Fence.wide with round:=R }
def xt (P:Program) (F:FuncId) (args:List Value) (h:ae) (v:Value) (h':ae):Prop:=
 ∀(ρ:aI) (args':Array Value) (w:World),bF ρ args args'.toList→aX P ρ h w→
  Calls P F args' w fun e w'=>∃v' av,e=.returned v'∧ay av v v'∧aX P av h' w'∧Tr ρ h w av h' w'
def sj (P:Program) (F:FuncId) (args:List Value) (h:ae) (K:Value→ae→Prop):Prop:=∃v h',xt P F args h v h'∧K v h'
theorem sj.mono {P:Program} {F:FuncId} {args:List Value} {h:ae} {K K':Value→ae→Prop} (hc:sj P F args h K) (hk:∀v h',K v h'→K' v h'):sj P F args h K':=
 let ⟨v,h',a,b⟩:=hc;⟨v,h',a,hk v h' b⟩
def Ms (P:Program) (i:Nat) (args:List Value) (h:ae) (v:Value) (h':ae):Prop:=
 ∀(ρ:aI) (r:RI) (args':Array Value) (w:World),ρ i=some r→bF ρ args args'.toList→aX P ρ h w→
  ∃fn tmps kn body,(Instr.yield r.bu args').run P w=.ok (.round r.bu fn tmps kn body) w∧
   RoundIn Fence.wide 0 P r.bu fn tmps kn body w fun e w'=>∃v' av,e=.returned v'∧ay av v v'∧aX P av h' w'∧Tr ρ h w av h' w'
def E1 (P:Program) (i:Nat) (args:List Value) (h:ae) (K:Value→ae→Prop):Prop:=∃v h',Ms P i args h v h'∧K v h'
theorem E1.mono {P:Program} {i:Nat} {args:List Value} {h:ae} {K K':Value→ae→Prop} (hc:E1 P i args h K) (hk:∀v h',K v h'→K' v h'):E1 P i args h K':=
 let ⟨v,h',a,b⟩:=hc;⟨v,h',a,hk v h' b⟩
def qp (P:Program) (f:FuncId):Bool:=
 match P.funcs[f]? with
 | some fn=>fn.name != "runtime.NumGoroutine" &&fn.body.isSome
 | none=>false
def fE (o:Option Value) (K:Value→Prop):Prop:=
 match o with
 | some v=>K v
 | none=>False
def nO (o:Option (Value×ae)) (K:Value→ae→Prop):Prop:=
 match o with
 | some (v,h')=>K v h'
 | none=>False
def uu (P:Program) (x:Value) (args:List Value) (h:ae) (K:Value→ae→Prop):Prop:=
 match x with
 | .func (.func g) first cap=>qp P g=true∧sj P g (first.toList++args++cap.toList) h K
 | .func (.yield i) first cap=>(first=#[]∧cap=#[])∧E1 P i args h K
 | _=>False
def vk (P:Program) (g:Value) (ls:List Nat) (vs:List Value) (c:Ds) (h:ae) (K:ae→Prop):Prop:=
 match g with
 | .func (.func F) first cap=>qp P F=true∧sj P F (first.toList++[.func (.yield h.length) #[] #[]]++cap.toList) (h++[.loop c ls vs]) fun _ h'=>
   (∃c' ls' jS,h'[h.length]?=some (.loop c' ls' jS))∧K (h'.set h.length .dead)
 | _=>False
def dc (P:Program) (o:hO) (f:Nat→Value) (h:ae) (K:Value→ae→Prop):Prop:=
 match o with
 | .p o=>fE (jx o (ev f)) fun v=>K v h
 | .l o=>fE (fD o (ev f) h) fun v=>K v h
 | .e o=>nO (fY o (ev f) h) K
 | .call g args=>sj P g (args.map (ev f)) h K
 | .lh x args=>uu P (ev f x) (args.map (ev f)) h K
def qV (v:Value) (b:Bool):Bool:=
 match v with
 | .bool c=>c==b
 | _=>false
def wK:Value→Bool
 | .complex _ _ _=>true
 | _=>false
def iW (g:Option (Nat×Bool)) (f:Nat→Value):Bool:=
 match g with
 | none=>true
 | some (s,b)=>qV (f s) b
def kP (v:Value) (b:Bool) (A B:Prop):Prop:=
 match v with
 | .bool c=>if (c==b)=true then A else B
 | .complex _ _ _=>False
 | _=>B
def dK (f:Nat→Value) (d:Option Nat) (v:Value):Nat→Value:=
 match d with
 | some d=>yE f d v
 | none=>f
def tE (P:Program):List iZ→((Nat→Value)→ae→Prop)→(Nat→Value)→ae→Prop
 | [],K,f,h=>K f h
 | o::os,K,f,h=>
  match o.guard with
  | none=>dc P o.op f h fun v h'=>tE P os K (dK f o.dst v) h'
  | some (s,b)=>kP (f s) b (dc P o.op f h fun v h'=>tE P os K (dK f o.dst v) h') (tE P os K (dK f o.dst undef) h)
def xT (P:Program):List jj→((Nat→Value)→ae→Prop)→(Nat→Value)→ae→Prop
 | [],K,f,h=>K f h
 | o::os,K,f,h=>dc P o.op f h fun v h'=>xT P os K (dK f o.dst v) h'
def CY:List jj→(Nat→Value)→(Nat→Value)
 | [],f=>f
 | o::os,f=>CY os (dK f o.dst undef)
def tL (P:Program) (g:Option (Nat×Bool)) (l:List jj) (K:(Nat→Value)→ae→Prop) (f:Nat→Value) (h:ae):Prop:=
 match g with
 | none=>xT P l K f h
 | some (s,b)=>kP (f s) b (xT P l K f h) (K (CY l f) h)
def hO.dJ:hO→Bool
 | .p _=>false
 | .l _=>false
 | _=>true
abbrev eK:=List (Nat×pC×(Nat→Value)×Value)
def xE (pre:Nat) (lo:pC) (f:Nat→Value) (v:Value):List (Nat×ae)→Prop
 | []=>True
 | (e,H)::r=>if pre.testBit e=true then xE pre lo f v r else fD lo (ev f) H=some v∧xE pre lo f v r
def lP (pre:Nat) (H:ae):eK→Prop
 | []=>True
 | (j,lo,f,v)::r=>if pre.testBit j=true then lP pre H r else fD lo (ev f) H=some v∧lP pre H r
def lC (P:Program) (io:hO) (pre j:Nat) (aN:List (Nat×ae)) (aG:eK) (f:Nat→Value) (h:ae) (next:List (Nat×ae)→eK→Value→ae→Prop):Prop:=
 match io with
 | .p po=>fE (jx po (ev f)) fun v=>next aN aG v h
 | .l lo=>fE (fD lo (ev f) h) fun v=>xE pre lo f v aN∧next aN (aG++[(j,lo,f,v)]) v h
 | .e (.fl a)=>nO (fY (.fl a) (ev f) h) fun v h'=>fE (er h' v) fun u=>lP pre h' aG∧next (aN++[(j,h)]) (aG++[(j,.obj (.const v),f,u)]) v h'
 | .e eo=>nO (fY eo (ev f) h) fun v h'=>lP pre h' aG∧next (aN++[(j,h)]) aG v h'
 | .call g args=>sj P g (args.map (ev f)) h fun v h'=>lP pre h' aG∧next (aN++[(j,h)]) aG v h'
 | .lh x args=>uu P (ev f x) (args.map (ev f)) h fun v h'=>lP pre h' aG∧next (aN++[(j,h)]) aG v h'
def xO (io:hO) (pre j:Nat) (aN:List (Nat×ae)) (aG:eK) (h:ae) (next:List (Nat×ae)→eK→Value→ae→Prop):Prop:=
 match io.dJ with
 | false=>next aN aG undef h
 | true=>lP pre h aG∧next (aN++[(j,h)]) aG undef h
def lF (P:Program):List cS→Nat→List (Nat×ae)→eK→((Nat→Value)→ae→Prop)→(Nat→Value)→ae→Prop
 | [],_,_,_,K,f,h=>K f h
 | o::os,j,aN,aG,K,f,h=>
  match o.op.guard with
  | none=>lC P o.op.op o.pre j aN aG f h fun aN aG v h'=>lF P os (j+1) aN aG K (dK f o.op.dst v) h'
  | some (s,b)=>
   kP (f s) b (lC P o.op.op o.pre j aN aG f h fun aN aG v h'=>lF P os (j+1) aN aG K (dK f o.op.dst v) h')
    (xO o.op.op o.pre j aN aG h fun aN aG v h'=>lF P os (j+1) aN aG K (dK f o.op.dst v) h')
def oU (P:Program):List km→Nat→List (Nat×ae)→eK→(List (Nat×ae)→eK→(Nat→Value)→ae→Prop)→(Nat→Value)→ae→Prop
 | [],_,aN,aG,K,f,h=>K aN aG f h
 | o::os,j,aN,aG,K,f,h=>lC P o.op o.pre j aN aG f h fun aN aG v h'=>oU P os (j+1) aN aG K (dK f o.dst v) h'
def vZ:List km→Nat→List (Nat×ae)→eK→(List (Nat×ae)→eK→(Nat→Value)→ae→Prop)→(Nat→Value)→ae→Prop
 | [],_,aN,aG,K,f,h=>K aN aG f h
 | o::os,j,aN,aG,K,f,h=>xO o.op o.pre j aN aG h fun aN aG v h'=>vZ os (j+1) aN aG K (dK f o.dst v) h'
def od (P:Program):List (Option (Nat×Bool)×List km)→Nat→List (Nat×ae)→eK→((Nat→Value)→ae→Prop)→(Nat→Value)→ae→Prop
 | [],_,_,_,K,f,h=>K f h
 | (none,l)::gs,j,aN,aG,K,f,h=>oU P l j aN aG (fun aN aG f h=>od P gs (j+l.length) aN aG K f h) f h
 | (some (s,b),l)::gs,j,aN,aG,K,f,h=>
  kP (f s) b (oU P l j aN aG (fun aN aG f h=>od P gs (j+l.length) aN aG K f h) f h)
   (vZ l j aN aG (fun aN aG f h=>od P gs (j+l.length) aN aG K f h) f h)
def aF (next:(Nat→Value)→ae→Prop) (K:Exit→(Nat→Value)→ae→Prop):Exit→(Nat→Value)→ae→Prop
 | .normal,f,h=>next f h
 | e,f,h=>K e f h
def bI (id:Nat) (K:Exit→(Nat→Value)→ae→Prop):Exit→(Nat→Value)→ae→Prop
 | .exit i,f,h=>if i=id then K .normal f h else K (.exit i) f h
 | e,f,h=>K e f h
def pI (c:Value) (a b:Prop):Prop:=
 match c with
 | .bool t=>if t=true then a else b
 | _=>False
def BL (Q:(Nat→Value)→ae→Prop) (ls:List Nat) (vs:List Value) (h:ae):Prop:=Q (kD ls vs) h
def AH (init:List Value) (h:ae) (Q:(List Value→ae→Prop)→List Value→ae→Prop):Prop:=
 ∃(J:List Value→ae→Prop) (μ:List Value→ae→Nat),J init h∧∀(xs:List Value) (hx:ae),J xs hx→Q (fun ys hy=>J ys hy∧μ ys hy<μ xs hx) xs hx
abbrev ar:=Exit→(Nat→Value)→ae→Prop
noncomputable def jf (P:Program) (c:fc):ar→(Nat→Value)→ae→Prop:=
 fc.rec (motive:=fun _=>ar→(Nat→Value)→ae→Prop)
  (fun K f h=>K .normal f h)
  (fun l K f h=>od P l 0 [] [] (K .normal) f h)
  (fun g l K f h=>tL P g l (K .normal) f h)
  (fun _ _ ia ib K f h=>ia (aF (ib K) K) f h)
  (fun ls _ ic K f h=>BL (ic K) ls (ls.map f) h)
  (fun c _ _ ia ib K f h=>pI (ev f c) (ia K f h) (ib K f h))
  (fun id _ ic K f h=>ic (bI id K) f h)
  (fun ks ls _ ic K f h=>AH (ls.map f) h fun L xs hx=>ic (aF (fun f' aU=>ks.map f'=ks.map f∧L (ls.map f') aU) K) (kD (ks++ls) (ks.map f++xs)) hx)
  (fun id K f h=>K (.exit id) f h)
  (fun K f h=>K .ret f h)
  (fun g ls c K f h=>vk P (ev f g) ls (ls.map f) c h (K .normal f)) c
theorem afD {P:Program} {c:Operand} {a b:fc} {K:ar} {f:Nat→Value} {h:ae}:jf P (.cond c a b) K f h=pI (ev f c) (jf P a K f h) (jf P b K f h):=rfl
def vS (P:Program) (op:Op):Option hO:=
 match ja P op with
 | some o=>some (.p o)
 | none=>match vQ P op with
  | some o=>some (.l o)
  | none=>match iN P op with
   | some o=>some (.e o)
   | none=>match op with
    | .call { callee:=.value (.func f),args,.. }=>if qp P f then some (.call f args.toList) else none
    | .call { callee:=.value x,args,.. }=>some (.lh x args.toList)
    | _=>none
def Iq (N:Nat) (ops:Array Oper):Option (Nat×Bool)→Option (Option (Nat×Bool))
 | none=>some none
 | some (j,b)=>match (ops[j]?).bind (·.dst) with
  | some s=>if s<N then some (some (s,b)) else none
  | none=>none
def zm (P:Program) (N:Nat) (ops:Array Oper) (o:Oper):Option iZ:=
 if o.op.operands.all jy&&o.dst.all (·<N) then
  match vS P o.op,Iq N ops o.guard with
  | some op,some g=>some ⟨o.dst,op,g⟩
  | _,_=>none
 else none
def lQ (P:Program) (N:Nat) (ops:Array Oper):List Oper→Option (List iZ)
 | []=>some []
 | o::os=>match zm P N ops o,lQ P N ops os with
  | some x,some xs=>some (x::xs)
  | _,_=>none
def ql.iA:ql→List Operand
 | .mv x | .un _ x | .conv _ x | .VI x | .SG x | .SH x | .Qh _ x | .Qk _ _ _ x | .S5 x | .ext x _=>[x]
 | .pick c a b=>[c,a,b]
 | .bin _ x y | .IH _ x y | .II _ x y | .Sl x y | .Sj _ _ _ x y | .OJ _ x y | .OI _ _ x y=>[x,y]
 | .JX _=>[]
 | .Fc _ xs=>xs
 | .Lq x lo hi=>x::(lo.toList++hi.toList)
 | .Ls _ _ x lo hi=>x::(lo.toList++hi.toList)
 | .fn _ first captured=>first++captured
 | .build _ parts=>parts.map (·.2.2)
 | .Sk f x c=>[.func f,x,c]
def pC.iA:pC→List Operand
 | .load _ _ a=>[a]
 | .ze x=>[x]
 | .lookup _ _ m k=>[m,k]
 | .JZ _ _ _ m k=>[m,k]
 | .JY _ _ _ m k=>[m,k]
 | .entry it=>[it]
 | .obj x=>[x]
def mT.iA:mT→List Operand
 | .alloc _ _=>[]
 | .nM _ _ _ parts=>parts.map (·.2.2)
 | .make _ _ _ l c=>[l,c]
 | .ph _=>[]
def pB.iA:pB→List Operand
 | .fl a=>a.iA
 | .store _ a v=>[a,v]
 | .box _ x=>[x]
 | .alloc _ _=>[]
 | .nM _ _ _ parts=>parts.map (·.2.2)
 | .make _ _ _ l c=>[l,c]
 | .app _ _ _ s x=>[s,x]
 | .mkMap=>[]
 | .J8 _=>[]
 | .die=>[]
 | .ph _=>[]
 | .SY _ m k v=>[m,k,v]
 | .DW _ m k=>[m,k]
 | .Vk x=>[x]
 | .next it=>[it]
 | .SZ _ m k v=>[m,k,v]
 | .SX m k v=>[m,k,v]
 | .copy d s=>[d,s]
def hO.iA:hO→List Operand
 | .p o=>o.iA
 | .l o=>o.iA
 | .e o=>o.iA
 | .call _ args=>args
 | .lh x args=>x::args
def tmpsOf:List Operand→List Nat
 | []=>[]
 | .tmp t::xs=>t::tmpsOf xs
 | _::xs=>tmpsOf xs
def iZ.reads (o:iZ):List Nat:=(match o.guard with | some (s,_)=>[s] | none=>[])++tmpsOf o.op.iA
def wY (qc:List Nat):List Nat→Nat
 | []=>0
 | e::es=>(2^e ||| qc.getD e 0) ||| wY qc es
def jM:List (List Nat)→List Nat→List Nat
 | [],acc=>acc
 | es::r,acc=>jM r (acc++[wY acc es])
def vv (o:cS) (t:Nat):Bool:=o.op.dst==some t||o.op.reads.contains t
def CK (oj:cS) (j:Nat) (oi:cS) (i:Nat):Bool:=
 (i==j||(match oi.op.dst with
  | none=>true
  | some t=> !vv oj t||(if i<j then oj.pre.testBit i else oi.pre.testBit j)))&&
 (!(decide (i<j)&&oi.op.op.dJ&&oj.op.op.dJ)||oj.pre.testBit i)
def KT (l:List cS):Bool:=l.zipIdx.all fun (oj,j)=>l.zipIdx.all fun (oi,i)=>CK oj j oi i
def fv (o:Oper):List Nat:=o.after.toList.filterMap fun e=>if Region.binds .any e then some e.on else none
def zf (ops:List Oper):Nat→Bool
 | i=>match ops with
  | []=>true
  | o::os=>(fv o).all (·<i)&&zf os (i+1)
def oM:List iZ→List Nat→List cS
 | o::os,p::ps=>⟨o,p⟩::oM os ps
 | _,_=>[]
def PR (P:Program) (N:Nat) (ops:Array Oper):Option (List cS):=
 match lQ P N ops ops.toList with
 | some ios=>
  if P.follows .mixedOrders&&zf ops.toList 0&&KT (oM ios (jM (ops.toList.map fv) [])) then some (oM ios (jM (ops.toList.map fv) [])) else none
 | none=>none
def iT (o:cS):Bool:=match o.op.op with | .e (.fl _)=>true | _=>false
def Qm (l:List cS):List Nat:=
 l.zipIdx.filterMap fun (oi,i)=>
  if (match oi.op.op with | .e eo=>eo.LH.isSome | _=>false)&&oi.op.guard.isNone&&(l.zipIdx.any fun (oj,j)=>j != i&&oj.op.op.dJ&& !(oi.pre.testBit j)&& !(oj.pre.testBit i)) then some i else none
def D9 (o:iZ):iZ:=
 match o.op,o.guard with
 | .e eo,none=>match eo.LH with | some a=>⟨o.dst,.e (.fl a),none⟩ | none=>o
 | _,_=>o
def J5 (pre:Nat):List Nat→Nat→Nat
 | [],_=>0
 | i::is,q=>(if pre.testBit i then 2^q else 0) ||| J5 pre is (q+1)
def aAj (l:List cS) (fl:List Nat):List Nat:=
 let inD:=fun i=>fl.contains i||fl.any fun a=>((l[a]?).map fun o=>o.pre.testBit i).getD false
 (List.range l.length).filter inD++(List.range l.length).filter fun i=> !inD i
def afS (l:List cS) (fl perm:List Nat):List cS:=
 perm.filterMap fun i=>(l[i]?).map fun o=>⟨if fl.contains i then D9 o.op else o.op,J5 o.pre perm 0⟩
def Iw:List Nat→Bool
 | []=>true
 | x::xs=> !(xs.contains x)&&Iw xs
def CL (oj:cS) (j:Nat) (oi:cS) (i:Nat):Bool:=
 (i==j||(match oi.op.dst with
  | none=>true
  | some t=> !vv oj t||(if i<j then oj.pre.testBit i else oi.pre.testBit j)))&&
 (!(decide (i<j)&&oi.op.op.dJ&&oj.op.op.dJ&& !(iT oi)&& !(iT oj))||oj.pre.testBit i)
def uM (l:List cS):Nat:=l.length-((l.reverse.takeWhile fun o=> !(iT o)).length)
def okF (l:List cS) (perm:List Nat) (qc:List Nat):Bool:=
 l.length==qc.length&&perm.length==qc.length&&Iw perm&&perm.all (·<qc.length)&&
 (l.zipIdx.all fun (oj,j)=>l.zipIdx.all fun (oi,i)=>CL oj j oi i)&&
 (l.zipIdx.all fun (o,q)=>if q<uM l then !(o.op.op.dJ)||iT o else !(iT o))&&
 (l.zipIdx.all fun (o,q)=>(List.range qc.length).all fun k=>o.pre.testBit k==(qc.getD (perm.getD q 0) 0).testBit (perm.getD k 0))&&
 (l.zipIdx.all fun (o,_)=> !(iT o)||o.op.guard.isNone)
def Ip (P:Program) (N:Nat) (ops:Array Oper):Option (List cS×List Nat):=
 match lQ P N ops ops.toList with
 | some ios=>
  let qc:=jM (ops.toList.map fv) []
  let l:=oM ios qc
  let fl:=Qm l
  let perm:=aAj l fl
  let l':=afS l fl perm
  if P.follows .mixedOrders&&zf ops.toList 0&&okF l' perm qc then some (l',perm) else none
 | none=>none
def PT (P:Program) (N:Nat) (ops:Array Oper):Option (List cS):=
 match PR P N ops with
 | some l=>some l
 | none=>(Ip P N ops).map Prod.fst
def uG:List iZ→List (Option (Nat×Bool)×List jj)
 | []=>[]
 | o::os=>match uG os with
  | (g,l)::gs=>if o.guard=g then (g,⟨o.dst,o.op⟩::l)::gs else (o.guard,[⟨o.dst,o.op⟩])::(g,l)::gs
  | []=>[(o.guard,[⟨o.dst,o.op⟩])]
def leaves (g:Option (Nat×Bool)) (d:Option Nat):Bool:=
 match g with
 | some (s,_)=>d != some s
 | none=>true
def xN:List cS→List (Option (Nat×Bool)×List km)
 | []=>[]
 | o::os=>match xN os with
  | (g,l)::gs=>if o.op.guard=g then (g,⟨o.op.dst,o.op.op,o.pre⟩::l)::gs else (o.op.guard,[⟨o.op.dst,o.op.op,o.pre⟩])::(g,l)::gs
  | []=>[(o.op.guard,[⟨o.op.dst,o.op.op,o.pre⟩])]
abbrev Hints:=List (List Nat)
def xJ (ls:List Nat) (c:fc):fc:=
 match ls with
 | []=>c
 | l::ls=>.cut (l::ls) c
def re:List (Option (Nat×Bool)×List jj)→Hints→fc×Hints
 | [],hs=>(.skip,hs)
 | (g,l)::gs,hs=>
  match gs,hs with
  | [],hs=>(.ops g l,hs)
  | gs,h::hs=>let r:=re gs hs;(.seq (.ops g l) (xJ h r.1),r.2)
  | gs,[]=>let r:=re gs [];(.seq (.ops g l) r.1,r.2)
def fu (P:Program) (N:Nat):Code→Hints→Option (fc×Hints)
 | .skip,hs=>some (.skip,hs)
 | .region _ ops false,hs=>
  match lQ P N ops ops.toList with
  | some l=>if l.all fun o=>leaves o.guard o.dst then some (re (uG l) hs) else none
  | none=>some (.ops none [⟨none,.e .die⟩],hs)
 | .region _ ops true,hs=>
  match PT P N ops with
  | some l=>if l.all fun o=>leaves o.op.guard o.op.dst then some (.Ix (xN l),hs) else none
  | none=>none
 | .seq a b,hs=>
  match fu P N a hs with
  | some (x,h::hs)=>match fu P N b hs with
   | some (y,hs)=>some (.seq x (xJ h y),hs)
   | none=>none
  | some (x,[])=>match fu P N b [] with
   | some (y,hs)=>some (.seq x y,hs)
   | none=>none
  | none=>none
 | .cond c a b,hs=>if jy c then match fu P N a hs with
  | some (x,hs)=>match fu P N b hs with
   | some (y,hs)=>some (.cond c x y,hs)
   | none=>none
  | none=>none
  else none
 | .block id c,hs=>match fu P N c hs with
  | some (x,hs)=>some (.block id x,hs)
  | none=>none
 | .loop c,hs=>
  match hs with
  | ks::ls::hs=>match fu P N c hs with
   | some (x,hs)=>some (.loop ks ls x,hs)
   | none=>none
  | _=>none
 | .exit id,hs=>some (.exit id,hs)
 | .ret,hs=>some (.ret,hs)
 | .rangeFunc g ps kn body,hs=>
  match hs with
  | ls::hs=>if jy g&&ps.all (·<N) then some (.range g ls ⟨N,ps,kn,body⟩,hs) else none
  | []=>none
 | _,_=>none
def iJ:Code→Bool
 | .seq a b=>iJ a&&iJ b
 | .cond _ a b=>iJ a&&iJ b
 | .block _ c=>iJ c
 | .loop c=>iJ c
 | .rangeFunc .. =>false
 | _=>true
section
variable {P : Program} {N : Nat}
def yS (P:Program) (N B:Nat) (ρ:aI) (h:ae) (w:World) (e:Exit) (f':Nat→Value) (h':ae):Exit→Act→World→Prop:=
 fun e' a' w'=>e'=e∧∃av,ep P N B av f' h' a' w'∧Tr ρ h w av h' w'
def gT (P:Program) (N:Nat) (out:Bool) (c:Code) (f:Nat→Value) (h:ae) (e:Exit) (f':Nat→Value) (h':ae):Prop:=
 ∀R,(out=true→R=none)→∀B ρ a w,ep P N B ρ f h a w→c.wpIn (FR R) 0 P (yS P N B ρ h w e f' h') a w
def GO (P:Program) (N:Nat) (o:Oper) (f:Nat→Value) (h:ae) (v:Value) (h':ae):Prop:=
 ∀R B ρ a w,ep P N B ρ f h a w→∀(next:Act→World→Prop) (Q:Exit→Act→World→Prop),
  (∀av v' w',ay av v v'→aX P av h' w'→Tr ρ h w av h' w'→next (a.put o.dst v') w')→o.wpIn (FR R) 0 P a w next Q
theorem Ll {o:Oper} (hn:∀c,o.op≠ .defer c) (R:Option Nat) (g:Operand→Value):o.semAt R g=execOp g o:=by
 cases R with
 | none=>rfl
 | some l=>exact Oper.semAt_some l g o hn
theorem LW {R:Option Nat} {o:Oper} {a:Act} {w w':World} {next:Act→World→Prop} {Q:Exit→Act→World→Prop} {v:Value} (hn:∀c,o.op≠ .defer c)
  (he:(execOp a.eval o).run P w=.ok (.value v) w') (hk:next (a.put o.dst v) w'):o.wpIn (FR R) 0 P a w next Q:=by
 refine ⟨fun _ _=>trivial,?_⟩
 rw [Ll hn,he,Oper.uponIn_value]
 exact hk
theorem aFv {R:Option Nat} {o:Oper} {a:Act} {w w':World} {next:Act→World→Prop} {Q:Exit→Act→World→Prop} (hn:∀c,o.op≠ .defer c)
  (he:(execOp a.eval o).run P w=.ok .skip w') (hk:next (a.put o.dst undef) w'):o.wpIn (FR R) 0 P a w next Q:=by
 refine ⟨fun _ _=>trivial,?_⟩
 rw [Ll hn,he,Oper.uponIn_skip]
 exact hk
theorem acC {f:FuncId} {args:Array Value} {w:World} {K:Ending→World→Prop} (h:Calls P f args w K) (R:Option Nat) (n:Nat):CallsIn (FR R) n P f args w K:=by
 cases R with
 | none=>exact callsIn_wide.2 h
 | some l=>exact (callsIn_wide (n:=n)).2 h
theorem aDM {l:Nat} {f:FuncId} {tmps:Array Value} {kn body:Code} {w:World} {K:Ending→World→Prop} (h:RoundIn Fence.wide 0 P l f tmps kn body w K) (R:Option Nat):
  RoundIn (FR R) 0 P l f tmps kn body w K:=h
theorem PG {f:FuncId} (h:qp P f=true) (args:Array Value) (w:World):(callFunc f args).run P w=.ok (.enter f args) w:=by
 unfold qp at h
 split at h
 ·rename_i fn hf
  simp only [and_eq_true,bne_iff_ne] at h
  obtain ⟨h1,h2⟩:=h
  have h3:fn.body≠none:=by
   intro hb
   simp [hb] at h2
  simp [callFunc,hf,h1,h3]
 ·cases h
theorem aiy {o:Oper} {f:Nat→Value} {h:ae} {g:FuncId} {args:List Value} {v:Value} {h':ae} (hc:xt P g args h v h')
  (hd:∀c,o.op≠ .defer c)
  (he:∀B ρ a w,ep P N B ρ f h a w→∃args':Array Value,bF ρ args args'.toList∧(execOp a.eval o).run P w=.ok (.enter g args') w):GO P N o f h v h':=by
 intro r B ρ a w R next Q hn
 obtain ⟨args',hv,hr⟩:=he B ρ a w R
 refine ⟨fun _ _=>trivial,?_⟩
 rw [Ll hd,hr,Oper.uponIn_enter]
 refine ⟨fun h=>(by cases h),?_⟩
 refine (acC (hc ρ args' w hv R.heap) r _).mono ?_
 rintro e w' ⟨v',av,rfl,h1,h2,h3⟩
 exact hn av v' w' h1 h2 h3
theorem az0 {o:Oper} {f:Nat→Value} {h:ae} {i:Nat} {args:List Value} {v:Value} {h':ae} (hc:Ms P i args h v h')
  (hd:∀c,o.op≠ .defer c)
  (he:∀B ρ a w,ep P N B ρ f h a w→∃(r:RI) (args':Array Value),ρ i=some r∧bF ρ args args'.toList∧(execOp a.eval o).run P w=(Instr.yield r.bu args').run P w):GO P N o f h v h':=by
 intro R' B ρ a w R next Q hn
 obtain ⟨r,args',hi,hv,hr⟩:=he B ρ a w R
 obtain ⟨fn,tmps,kn,body,e1,e2⟩:=hc ρ r args' w hi hv R.heap
 refine ⟨fun _ _=>trivial,?_⟩
 rw [Ll hd,hr,e1,Oper.uponIn_round]
 refine ⟨fun h=>(by cases h),?_⟩
 refine (aDM e2 R').mono ?_
 rintro e w' ⟨v',av,rfl,h1,h2,h3⟩
 exact hn av v' w' h1 h2 h3
theorem acG {op:Op} {io:hO} (h:vS P op=some io):∀c,op≠ .defer c:=by
 rintro c rfl
 simp [vS,ja,vQ,iN] at h
theorem PW {op:Op} {io:hO} (h:vS P op=some io):(∃o,io=.p o∧ja P op=some o)∨(∃o,io=.l o∧vQ P op=some o)∨(∃o,io=.e o∧iN P op=some o)∨
  (∃f args at_,op=.call ⟨.value (.func f),args,at_⟩∧qp P f=true∧io=.call f args.toList)∨(∃x args at_,op=.call ⟨.value x,args,at_⟩∧io=.lh x args.toList):=by
 unfold vS at h
 split at h
 ·rename_i o ho;simp at h;exact .inl ⟨o,h.symm,ho⟩
 ·split at h
  ·rename_i o ho;simp at h;exact .inr (.inl ⟨o,h.symm,ho⟩)
  ·split at h
   ·rename_i o ho;simp at h;exact .inr (.inr (.inl ⟨o,h.symm,ho⟩))
   ·split at h
    ·split at h
     ·rename_i hc;simp at h;exact .inr (.inr (.inr (.inl ⟨_,_,_,rfl,hc,h.symm⟩)))
     ·cases h
    ·simp at h;exact .inr (.inr (.inr (.inr ⟨_,_,_,rfl,h.symm⟩)))
    ·cases h
theorem AR {o:Oper} {io:hO} {f:Nat→Value} {h:ae} {K:Value→ae→Prop} (hc:vS P o.op=some io) (aC:o.op.operands.all jy=true) (hs:dc P io f h K):
  ∃v h',GO P N o f h v h'∧K v h':=by
 have oZ:=acG hc
 rcases PW hc with ⟨po,rfl,hp⟩ | ⟨lo,rfl,hl⟩ | ⟨eo,rfl,he⟩ | ⟨g,args,at_,ho,m8,rfl⟩ | ⟨x,args,at_,ho,rfl⟩
 ·simp only [dc,fE] at hs
  split at hs
  ·rename_i v hv
   refine ⟨v,h,?_,hs⟩
   intro _ B ρ a w R next Q hn
   obtain ⟨v',h1,h2⟩:=aAt w hp aC R.heap.aV (fun x hx=>R.ev hx) hv
   exact LW oZ h1 (hn ρ v' w h2 R.heap (Tr.refl R.heap))
  ·exact hs.elim
 ·simp only [dc,fE] at hs
  split at hs
  ·rename_i v hv
   refine ⟨v,h,?_,hs⟩
   intro _ B ρ a w R next Q hn
   obtain ⟨v',h1,h2⟩:=azu hl aC R.heap (fun x hx=>R.ev hx) hv
   exact LW oZ h1 (hn ρ v' w h2 R.heap (Tr.refl R.heap))
  ·exact hs.elim
 ·simp only [dc,nO] at hs
  split at hs
  ·rename_i v h' hv
   refine ⟨v,h',?_,hs⟩
   intro _ B ρ a w R next Q hn
   obtain ⟨nx,w',av,v',e1,e2,e3,e4,e5⟩:=avU he aC R.heap (fun x hx=>R.ev hx) hv
   rcases e2 with rfl | ⟨rfl,rfl⟩
   ·exact LW oZ e1 (hn av v' w' e3 e4 e5)
   ·exact aFv oZ e1 (hn av undef w' e3 e4 e5)
  ·exact hs.elim
 ·obtain ⟨v,h',rO,hk⟩:=hs
  refine ⟨v,h',aiy rO oZ ?_,hk⟩
  intro B ρ a w R
  rw [ho] at aC
  simp [Op.operands,Call.operands] at aC
  refine ⟨args.map a.eval,by simpa using bF.AK (fun x hx=>R.ev hx) (xs:=args.toList) (by simpa using aC.2),?_⟩
  simp [execOp,ho,resolve,Act.eval,Deferred.ofValue,invoke,PG m8]
 ·simp only [dc,uu] at hs
  rw [ho] at aC
  simp [Op.operands,Call.operands] at aC
  split at hs
  ·rename_i g first cap hx
   obtain ⟨m8,v,h',rO,hk⟩:=hs
   refine ⟨v,h',aiy rO oZ ?_,hk⟩
   intro B ρ a w R
   have hr:=R.ev (x:=x) aC.1
   rw [hx] at hr
   generalize hy:a.eval x=y at hr
   cases hr with
   | func _ s1 s2 r1 r2=>
    rename_i Qj PH
    refine ⟨Qj++args.map a.eval++PH,?_,?_⟩
    ·have q1:=bF.tU s1 r1
     have q2:=bF.AK (fun x hx=>R.ev hx) (xs:=args.toList) (by simpa using aC.2)
     have q3:=bF.tU s2 r2
     simpa using (q1.append q2).append q3
    ·simp [execOp,ho,resolve,hy,Deferred.ofValue,invoke,PG m8]
  ·rename_i i first cap hx
   obtain ⟨⟨rfl,rfl⟩,v,h',rO,hk⟩:=hs
   refine ⟨v,h',az0 rO oZ ?_,hk⟩
   intro B ρ a w R
   have hr:=R.ev (x:=x) aC.1
   rw [hx] at hr
   generalize hy:a.eval x=y at hr
   cases hr with
   | yield hi=>
    rename_i r
    refine ⟨r,args.map a.eval,hi,by simpa using bF.AK (fun x hx=>R.ev hx) (xs:=args.toList) (by simpa using aC.2),?_⟩
    simp [execOp,ho,resolve,hy,Deferred.ofValue,invoke]
  ·exact hs.elim
end
end
end Go.Sim
