/-
  Part 1 of the texts behind a statement of this seat: Sim1, Sim2, Sim3, Sim4, Sim5, Sim6, Sim7, Sim8, Sim7d, Sim9, Sim9g, Sim10, Sim11, Sim12, Sim13, Sim14.
-/
import Derived.WalkKit
import Derived.Laws.Append
import Derived.Laws.AppendOwn
import Derived.Laws.MakeOwn
import Derived.Laws.BytesString
import Derived.RangeFuncRecord
import Derived.Lib.Bytealg
import Derived.WalkSpells
import Derived.WideKeyArr
import Derived.MapKept
import Derived.Laws.CopyRow
import Derived.Laws.IdiomCopy
open Array (ext' getElem?_eq_getElem getElem?_toList)
open Bool (and_eq_true)
open List (all_eq_true getElem?_append_left getElem?_set_ne mem_of_getElem?)
open Nat (add_mul le_refl le_trans zero_add)
open Option (bind_eq_some_iff map_eq_some_iff)
namespace Go.Sim
section
theorem aU {p : Prop} [Decidable p] (h : ¬p) : decide p = false := decide_eq_false h
theorem a9 {p : Prop} [Decidable p] (h : p) : decide p = true := decide_eq_true h
theorem bH {n m : Nat} (h : Nat.ble n m = true) : n ≤ m := Nat.le_of_ble_eq_true h
theorem bK {α : Type} {l : List α} {i : Nat} {a : α} (h : l[i]? = some a) : ∃ h : i < l.length, l[i] = a := List.getElem?_eq_some_iff.1 h
structure RI where
 bw:Nat
 sh:Nat
 elem:TypeId
 aX:Nat
 size:Nat
abbrev aK:=Nat→Option RI
structure CJ where
 N:Nat
 ps:Array Tmp
 j9:Code
 body:Code
inductive fR where
 | int (k:IntKind)
 | str
 | ints (n:Nat) (k:IntKind)
 deriving DecidableEq
def kh (k:IntKind):Value→Bool
 | .int k' _=>decide (k'=k)
 | _=>false
def Eh (k:IntKind):Value→Bool
 | .int _ n=>decide (k.min≤n)&&decide (n≤k.max)
 | _=>false
def fc:fR→Value→Bool
 | .int k,v=>kh k v
 | .str,.string _=>true
 | .ints n k,.agg cs=>decide (cs.size=n)&&cs.toList.all fun v=>kh k v&&Eh k v
 | _,_=>false
inductive aq where
 | ro (e:TypeId) (xs:List Value)
 | arr (e:TypeId) (xs:List Value)
 | smap (es:List (ByteArray×Value))
 | kH (kd:IntKind) (es:List (Int×Value))
 | cR (g:fR) (clock:Nat) (es:List (Nat×Value×Value))
 | iter (m kl:Nat) (seen:List Nat) (last:Nat)
 | loop (c:CJ) (ls:List Nat) (vs:List Value)
 | dead
abbrev ae:=List aq
abbrev Yt:Value:=.complex .f32 0 0
def kj:List Nat→List Value→Nat→Value
 | l::ls,v::vs,j=>match Nat.beq j l with | true=>v | false=>kj ls vs j
 | _,_,_=>Yt
theorem ayP (l:Nat) (ls:List Nat) (v:Value) (vs:List Value) (j:Nat):kj (l::ls) (v::vs) j=if j=l then v else kj ls vs j:=by
 show (match Nat.beq j l with | true=>v | false=>kj ls vs j)=_
 split
 ·rename_i h;rw [if_pos (Nat.eq_of_beq_eq_true h)]
 ·rename_i h;rw [if_neg (Nat.ne_of_beq_eq_false h)]
def gy:Value→Bool
 | .agg _ | .tuple _ | .complex _ _ _=>false
 | _=>true
inductive ax (ρ:aK):Value→Value→Prop
 | bool (b:Bool):ax ρ (.bool b) (.bool b)
 | int (k:IntKind) (n:Int):ax ρ (.int k n) (.int k n)
 | string (s:ByteArray):ax ρ (.string s) (.string s)
 | ue:ax ρ (.pointer none) (.pointer none)
 | qO:ax ρ (.slice none 0 0) (.slice none 0 0)
 | uc:ax ρ (.map none) (.map none)
 | nilFunc:ax ρ .nilFunc .nilFunc
 | nilIface:ax ρ .nilIface .nilIface
 | ptr {i o:Nat} {r:RI}:ρ i=some r→ax ρ (.pointer (some ⟨i,o,none⟩)) (.pointer (some ⟨r.bw,r.sh+o,none⟩))
 | slice {i o n o' c':Nat} {r:RI}:ρ i=some r→(o'=r.sh+o∨(n=0∧0<o∧c'=0))→n≤c'→c'≤maxLen→o'+c'*r.aX≤r.size→
   ax ρ (.slice (some ⟨i,o,some r.elem⟩) n n) (.slice (some ⟨r.bw,o',none⟩) n c')
 | void (a:Addr):ax ρ (.slice none 0 1) (.slice (some a) 0 0)
 | map {i:Nat} {r:RI}:ρ i=some r→ax ρ (.map (some i)) (.map (some r.bw))
 | func (f:FuncId) {xs ys fx Ao:Array Value}:xs.size=fx.size→ys.size=Ao.size→
   (∀(k:Nat) (x x':Value),xs[k]?=some x→fx[k]?=some x'→ax ρ x x')→
   (∀(k:Nat) (x x':Value),ys[k]?=some x→Ao[k]?=some x'→ax ρ x x')→ax ρ (.func (.func f) xs ys) (.func (.func f) fx Ao)
 | yield {i:Nat} {r:RI}:ρ i=some r→ax ρ (.func (.yield i) #[] #[]) (.func (.yield r.bw) #[] #[])
 | agg {xs fx:Array Value}:xs.size=fx.size→(∀x∈xs.toList,gy x=true)→(∀(k:Nat) (x x':Value),xs[k]?=some x→fx[k]?=some x'→ax ρ x x')→ax ρ (.agg xs) (.agg fx)
 | any (v:Value):ax ρ (.complex .f32 0 0) v
 | tuple {xs fx:Array Value}:xs.size=fx.size→(∀(k:Nat) (x x':Value),xs[k]?=some x→fx[k]?=some x'→ax ρ x x')→ax ρ (.tuple xs) (.tuple fx)
def aK.le (ρ av:aK):Prop:=∀i r,ρ i=some r→av i=some r
theorem aK.le.refl (ρ:aK):ρ.le ρ:=fun _ _ h=>h
theorem aK.le.trans {a b c:aK} (h:a.le b) (k:b.le c):a.le c:=fun i r e=>k i r (h i r e)
theorem ax.mono {ρ av:aK} (h:ρ.le av) {v v':Value} (hv:ax ρ v v'):ax av v v':=by
 induction hv with
 | bool b=>exact .bool b
 | int k n=>exact .int k n
 | string s=>exact .string s
 | ue=>exact .ue
 | qO=>exact .qO
 | uc=>exact .uc
 | nilFunc=>exact .nilFunc
 | nilIface=>exact .nilIface
 | ptr hi=>exact .ptr (h _ _ hi)
 | slice hi a b c d=>exact .slice (h _ _ hi) a b c d
 | void a=>exact .void a
 | map hi=>exact .map (h _ _ hi)
 | func f a b _ _ zx BI=>exact .func f a b (fun k x x' e e'=>zx k x x' e e') (fun k x x' e e'=>BI k x x' e e')
 | yield hi=>exact .yield (h _ _ hi)
 | agg a b _ ih=>exact .agg a b (fun k x x' e e'=>ih k x x' e e')
 | any v=>exact .any v
 | tuple a _ ih=>exact .tuple a (fun k x x' e e'=>ih k x x' e e')
theorem ax.undef (ρ:aK):ax ρ undef undef:=.tuple rfl (fun k x x' e e'=>by simp at e)
inductive bF (ρ:aK):List Value→List Value→Prop
 | nil:bF ρ [] []
 | cons {x y:Value} {xs ys:List Value}:ax ρ x y→bF ρ xs ys→bF ρ (x::xs) (y::ys)
theorem bF.mono {ρ av:aK} (h:ρ.le av) {xs ys:List Value} (hv:bF ρ xs ys):bF av xs ys:=by
 induction hv with
 | nil=>exact .nil
 | cons a _ ih=>exact .cons (a.mono h) ih
theorem bF.length {ρ:aK} {xs ys:List Value} (hv:bF ρ xs ys):xs.length=ys.length:=by
 induction hv with
 | nil=>rfl
 | cons _ _ ih=>simp [ih]
theorem bF.get {ρ:aK} {xs ys:List Value} (hv:bF ρ xs ys):∀{k:Nat} {x:Value},xs[k]?=some x→∃y,ys[k]?=some y∧ax ρ x y:=by
 induction hv with
 | nil=>intro k x h;simp at h
 | cons a _ ih=>
  intro k x h
  cases k with
  | zero=>simp at h;subst h;exact ⟨_,by simp,a⟩
  | succ k=>simp at h;obtain ⟨y,hy,hr⟩:=ih h;exact ⟨y,by simpa using hy,hr⟩
theorem bF.append {ρ:aK} {xs ys fx Ao:List Value} (h:bF ρ xs ys) (h':bF ρ fx Ao):bF ρ (xs++fx) (ys++Ao):=by
 induction h with
 | nil=>exact h'
 | cons a _ ih=>exact .cons a ih
theorem bF.Jv {ρ:aK}:∀{xs ys:List Value},xs.length=ys.length→(∀(k:Nat) (x y:Value),xs[k]?=some x→ys[k]?=some y→ax ρ x y)→bF ρ xs ys
 | [],[],_,_=>.nil
 | x::xs,y::ys,hl,h=>.cons (h 0 x y rfl rfl) (bF.Jv (by simpa using hl) fun k a b ha hb=>h (k+1) a b (by simpa using ha) (by simpa using hb))
theorem bF.take {ρ:aK} {xs ys:List Value} (h:bF ρ xs ys):∀n,bF ρ (xs.take n) (ys.take n):=by
 induction h with
 | nil=>intro n;simp;exact .nil
 | cons a _ ih=>intro n;cases n with
  | zero=>exact .nil
  | succ n=>exact .cons a (ih n)
theorem bF.drop {ρ:aK} {xs ys:List Value} (h:bF ρ xs ys):∀n,bF ρ (xs.drop n) (ys.drop n):=by
 induction h with
 | nil=>intro n;simp;exact .nil
 | cons a b ih=>intro n;cases n with
  | zero=>exact .cons a b
  | succ n=>exact ih n
theorem bF.set {ρ:aK} {xs ys:List Value} (h:bF ρ xs ys) {v v':Value} (hv:ax ρ v v'):∀n,bF ρ (xs.set n v) (ys.set n v'):=by
 induction h with
 | nil=>intro n;simp;exact .nil
 | cons a b ih=>intro n;cases n with
  | zero=>exact .cons hv b
  | succ n=>exact .cons a (ih n)
theorem bF.ti {ρ:aK} {xs fx:Array Value} (hs:xs.size=fx.size) (h:∀(k:Nat) (x x':Value),xs[k]?=some x→fx[k]?=some x'→ax ρ x x'):bF ρ xs.toList fx.toList:=
 bF.Jv (by simpa using hs) fun k x y hx hy=>h k x y (by simpa using hx) (by simpa using hy)
theorem bF.ofList {ρ:aK} {xs fx:List Value} (h:bF ρ xs fx):∀(k:Nat) (x x':Value),xs.toArray[k]?=some x→fx.toArray[k]?=some x'→ax ρ x x':=by
 intro k x x' hx bR
 obtain ⟨y,hy,hr⟩:=h.get (k:=k) (x:=x) (by simpa using hx)
 simp at bR
 rw [hy] at bR
 cases bR
 exact hr
theorem ax.AK {ρ:aK} {xs fx:List Value} (h:bF ρ xs fx) (h1:∀x∈xs,gy x=true):ax ρ (.agg xs.toArray) (.agg fx.toArray):=.agg (by simpa using h.length) (by simpa using h1) h.ofList
theorem ax.rU {ρ:aK} {xs fx:List Value} (h:bF ρ xs fx):ax ρ (.tuple xs.toArray) (.tuple fx.toArray):=.tuple (by simpa using h.length) h.ofList
def de (v:Value):List Value:=v.cells.toList
def iA:Value→Bool
 | .tuple _ | .complex _ _ _=>false
 | _=>true
theorem ax.cells {ρ:aK} {v v':Value} (h:ax ρ v v') (hn:iA v=true):bF ρ (de v) (de v'):=by
 cases h with
 | any _=>simp [iA] at hn
 | agg hs _ h=>exact bF.ti hs h
 | bool b=>exact .cons (.bool b) .nil
 | int k n=>exact .cons (.int k n) .nil
 | string s=>exact .cons (.string s) .nil
 | ue=>exact .cons .ue .nil
 | qO=>exact .cons .qO .nil
 | uc=>exact .cons .uc .nil
 | nilFunc=>exact .cons .nilFunc .nil
 | nilIface=>exact .cons .nilIface .nil
 | ptr hi=>exact .cons (.ptr hi) .nil
 | slice hi a b c d=>exact .cons (.slice hi a b c d) .nil
 | void a=>exact .cons (.void a) .nil
 | map hi=>exact .cons (.map hi) .nil
 | func f a b c d=>exact .cons (.func f a b c d) .nil
 | yield hi=>exact .cons (.yield hi) .nil
 | tuple a b=>simp [iA] at hn
def eX (h:ae) (i:Nat):Prop:=∃o,h[i]?=some o∧o≠ .dead
def cB (h:ae) (i:Nat):Prop:=(∃e xs,h[i]?=some (.arr e xs))∨(∃es,h[i]?=some (.smap es))∨(∃c ls vs,h[i]?=some (.loop c ls vs))∨(∃kd es,h[i]?=some (.kH kd es))∨(∃g c es,h[i]?=some (.cR g c es))∨(∃m s n l,h[i]?=some (.iter m s n l))
theorem cB.live {h:ae} {i:Nat} (hm:cB h i):eX h i:=by
 rcases hm with ⟨e,xs,hm⟩ | ⟨es,hm⟩ | ⟨c,ls,vs,hm⟩ | ⟨kd,es,hm⟩ | ⟨g,c,es,hm⟩ | ⟨m,s,n,l,hm⟩
 ·exact ⟨_,hm,by simp⟩
 ·exact ⟨_,hm,by simp⟩
 ·exact ⟨_,hm,by simp⟩
 ·exact ⟨_,hm,by simp⟩
 ·exact ⟨_,hm,by simp⟩
 ·exact ⟨_,hm,by simp⟩
def fX (ρ:aK) (c:Array Value) (sh:Nat) (xs:List Value):Prop:=∀(j:Nat) (x:Value),xs[j]?=some x→gy x=true∧∃y,c[sh+j]?=some y∧ax ρ x y
theorem ax.EG {ρ:aK} {v v':Value} (h:ax ρ v v') (hc:gy v=true):v'.oneCell'=true:=by
 cases h <;> first | rfl | simp [gy] at hc
theorem bF.EG {ρ:aK} {xs ys:List Value} (h:bF ρ xs ys) (h1:∀x∈xs,gy x=true):∀y∈ys,y.oneCell'=true:=by
 induction h with
 | nil=>intro y hy;simp at hy
 | cons a _ ih=>
  intro y hy
  rcases List.mem_cons.1 hy with rfl | hy
  ·exact a.EG (h1 _ (by simp))
  ·exact ih (fun x hx=>h1 x (by simp [hx])) y hy
theorem ax.Hz {ρ:aK} {v v':Value} (h:ax ρ v v') (ht:iA v=true):∀x∈de v,gy x=true:=by
 cases h with
 | agg hs h1 h=>exact h1
 | tuple _ _=>simp [iA] at ht
 | any _=>simp [iA] at ht
 | _=>intro x hx;simp [de,Value.cells] at hx;subst hx;rfl
theorem fX.of {ρ:aK} {xs:List Value} {c:Array Value} (h:bF ρ xs c.toList) (h1:∀x∈xs,gy x=true):fX ρ c 0 xs:=by
 intro j x hj
 obtain ⟨y,hy,hr⟩:=h.get hj
 exact ⟨h1 x (mem_of_getElem? hj),y,by simpa using hy,hr⟩
def kY (ρ:aK) (w:World) (r:RI):aq→Prop
 | .ro e xs=>r.elem=e∧∃c t fr,w.heap[r.bw]?=some (.cells c t fr)∧c.size=r.size∧fX ρ c r.sh xs
 | .arr e xs=>r.elem=e∧r.sh=0∧∃c,w.heap[r.bw]?=some (.cells c e (0,0))∧c.size=r.size∧fX ρ c 0 xs
 | .smap es=>∃aJ clock,w.heap[r.bw]?=some (.map aJ clock)∧aJ.size=es.length∧
   ∀(j:Nat) (k:ByteArray) (v:Value),es[j]?=some (k,v)→∃en,aJ[j]?=some en∧en.key=.string k∧ax ρ v en.val
 | .kH kd es=>∃aJ clock,w.heap[r.bw]?=some (.map aJ clock)∧aJ.size=es.length∧
   ∀(j:Nat) (k:Int) (v:Value),es[j]?=some (k,v)→∃en,aJ[j]?=some en∧en.key=.int kd k∧ax ρ v en.val
 | .cR g clock es=>(es.map fun e=>e.2.1).Nodup∧∃aJ,w.heap[r.bw]?=some (.map aJ clock)∧aJ.size=es.length∧
   ∀(j b:Nat) (k v:Value),es[j]?=some (b,k,v)→fc g k=true∧∃en,aJ[j]?=some en∧en.key=k∧en.born=b∧ax ρ v en.val
 | .iter m kl seen last=>r.sh=0∧∃rm,ρ m=some rm∧w.heap[r.bw]?=some (.mapIter (some rm.bw) kl seen.toArray last)
 | .loop c ls vs=>∃rec,w.heap[r.bw]?=some (.loop rec)∧rec.state=.ready∧rec.pending=none∧rec.assign=c.j9∧rec.body=c.body∧rec.params=c.ps∧rec.tmps.size=c.N∧
   ∀t,ax ρ (kj ls vs t) (rec.tmps.getD t Go.undef)
 | .dead=>True
structure aZ (P:Program) (ρ:aK) (h:ae) (w:World):Prop where
 obj:∀i r,ρ i=some r→∃o,h[i]?=some o∧kY ρ w r o
 inj:∀i j r s,ρ i=some r→ρ j=some s→r.bw=s.bw→cB h i→eX h j→i=j
 aX:∀i r,ρ i=some r→r.aX=P.cellsOf r.elem
theorem aZ.lt {P:Program} {ρ:aK} {h:ae} {w:World} (H:aZ P ρ h w) {i:Nat} {r:RI} (hi:ρ i=some r):i<h.length:=by
 obtain ⟨o,ho,_⟩:=H.obj i r hi
 exact (bK ho).1
structure Tr (ρ:aK) (h:ae) (w:World) (av:aK) (h':ae) (w':World):Prop where
 ext:ρ.le av
 len:h.length≤h'.length
 jC:∀i r,ρ i=some r→i<h.length
 kinds:∀i,i<h.length→cB h' i→cB h i
 fresh:∀i r,av i=some r→ρ i=none→h.length≤i∧(w.heap.size≤r.bw∨∃j s,ρ j=some s∧s.bw=r.bw∧cB h j)
 iL:w.heap.size≤w'.heap.size
 hY:∀b,b<w.heap.size→(∀j s,ρ j=some s→s.bw=b→¬cB h j)→w'.heap[b]?=w.heap[b]?
 os:w'.os=w.os
 tape:w'.tape=w.tape
 output:w'.output=w.output
theorem Tr.refl {P:Program} {ρ:aK} {h:ae} {w:World} (H:aZ P ρ h w):Tr ρ h w ρ h w where
 ext:=.refl _
 len:=le_refl _
 jC:=fun _ _ hi=>H.lt hi
 kinds:=fun _ _ h=>h
 fresh:=fun i r h1 h2=>by rw [h1] at h2;cases h2
 iL:=le_refl _
 hY:=fun _ _ _=>rfl
 os:=rfl
 tape:=rfl
 output:=rfl
theorem Tr.trans {nj VL aml:aK} {h₁ ael I1:ae} {oB K8 amd:World} (a:Tr nj h₁ oB VL ael K8) (b:Tr VL ael K8 aml I1 amd):Tr nj h₁ oB aml I1 amd where
 ext:=a.ext.trans b.ext
 len:=le_trans a.len b.len
 jC:=a.jC
 kinds:=fun i hi hm=>a.kinds i hi (b.kinds i (Nat.lt_of_lt_of_le hi a.len) hm)
 fresh:=by
  intro i r h3 h1
  cases h2:VL i with
  | some r2=>
   have:=b.ext i r2 h2
   rw [h3] at this
   cases this
   exact a.fresh i r h2 h1
  | none=>
   obtain ⟨hl,hb⟩:=b.fresh i r h3 h2
   refine ⟨le_trans a.len hl,?_⟩
   rcases hb with hb | ⟨j,s,hj,hs,hm⟩
   ·exact .inl (le_trans a.iL hb)
   ·cases uX:nj j with
    | some s'=>
     have:=a.ext j s' uX
     rw [hj] at this
     cases this
     exact .inr ⟨j,s,uX,hs,a.kinds j (a.jC j s uX) hm⟩
    | none=>
     obtain ⟨_,h⟩:=a.fresh j s hj uX
     rw [hs] at h
     rcases h with h | ⟨j',s',q1,q2,q3⟩
     ·exact .inl h
     ·exact .inr ⟨j',s',q1,q2,q3⟩
 iL:=le_trans a.iL b.iL
 hY:=by
  intro k hk dG
  rw [b.hY k (Nat.lt_of_lt_of_le hk a.iL) ?_,a.hY k hk dG]
  intro j s hj hs hm
  cases uX:nj j with
  | some s'=>
   have:=a.ext j s' uX
   rw [hj] at this
   cases this
   exact dG j s uX hs (a.kinds j (a.jC j s uX) hm)
  | none=>
   obtain ⟨_,h⟩:=a.fresh j s hj uX
   rcases h with h | ⟨j',s',q1,q2,q3⟩
   ·omega
   ·exact dG j' s' q1 (by omega) q3
 os:=b.os.trans a.os
 tape:=b.tape.trans a.tape
 output:=b.output.trans a.output
theorem aZ.drew {P:Program} {ρ:aK} {h:ae} {w:World} (H:aZ P ρ h w) (n:Nat):aZ P ρ h { w with drawn:=n }:=
 ⟨fun i r hi=>let ⟨o,ho,hr⟩:=H.obj i r hi;⟨o,ho,by cases o <;> exact hr⟩,H.inj,H.aX⟩
theorem Tr.drew {P:Program} {ρ:aK} {h:ae} {w:World} (H:aZ P ρ h w) (n:Nat):Tr ρ h w ρ h { w with drawn:=n } where
 ext:=.refl _
 len:=le_refl _
 jC:=fun _ _ hi=>H.lt hi
 kinds:=fun _ _ h=>h
 fresh:=fun i r h1 h2=>by rw [h1] at h2;cases h2
 iL:=le_refl _
 hY:=fun _ _ _=>rfl
 os:=rfl
 tape:=rfl
 output:=rfl
def mark (D:Nat):Deferred:={ target:=.collected D,args:=#[] }
def marks (B:Nat):List Deferred→World→Prop
 | [],w=>B≤w.heap.size
 | d::ds,w=>(∃D,d=mark D∧B≤D∧w.heap[D]?=some (.deferred (some []))∧∀d'∈ds,d'≠mark D)∧marks B ds w
theorem aZ.Sv {P:Program} {ρ:aK} {h:ae} {w:World} (H:aZ P ρ h w) {D:Nat} {x:Option (List Deferred)} (hD:w.heap[D]?=some (.deferred x)) {j:Nat} {s:RI} (hj:ρ j=some s) (hs:s.bw=D):¬eX h j:=by
 rintro ⟨o,ho,bp⟩
 obtain ⟨o',dO,hr⟩:=H.obj j s hj
 rw [ho] at dO
 cases dO
 subst hs
 cases o with
 | ro e xs=>obtain ⟨_,c,_,fr,h2,_⟩:=hr;rw [hD] at h2;cases h2
 | arr e xs=>obtain ⟨_,_,c,h2,_⟩:=hr;rw [hD] at h2;cases h2
 | smap es=>obtain ⟨aJ,clock,h1,_⟩:=hr;rw [hD] at h1;cases h1
 | kH kd es=>obtain ⟨aJ,clock,h1,_⟩:=hr;rw [hD] at h1;cases h1
 | cR g c es=>obtain ⟨_,aJ,h1,_⟩:=hr;rw [hD] at h1;cases h1
 | iter m s n l=>obtain ⟨_,rm,_,h1⟩:=hr;rw [hD] at h1;cases h1
 | loop c ls vs=>obtain ⟨rec,h1,_⟩:=hr;rw [hD] at h1;cases h1
 | dead=>exact bp rfl
theorem marks.tr {P:Program} {ρ av:aK} {h h':ae} {w w':World} (H:aZ P ρ h w) (T:Tr ρ h w av h' w') {B:Nat}:∀{ds:List Deferred},marks B ds w→marks B ds w'
 | [],hb=>le_trans hb T.iL
 | d::ds,⟨⟨D,h1,h2,h3,h4⟩,h5⟩=>
  ⟨⟨D,h1,h2,by rw [T.hY D (Array.getElem?_eq_some_iff.1 h3).1 fun j s hj hs hm=>H.Sv h3 hj hs hm.live];exact h3,h4⟩,marks.tr H T h5⟩
theorem marks.lt {B:Nat} {w:World}:∀{ds:List Deferred},marks B ds w→∀d∈ds,∃D,d=mark D∧D<w.heap.size
 | [],_,d,hd=>by simp at hd
 | d::ds,⟨⟨D,h1,h2,h3,h4⟩,h5⟩,d',hd=>by
  rcases List.mem_cons.1 hd with rfl | hd
  ·exact ⟨D,h1,(Array.getElem?_eq_some_iff.1 h3).1⟩
  ·exact marks.lt h5 d' hd
theorem marks.base {B:Nat} {w:World}:∀{ds:List Deferred},marks B ds w→B≤w.heap.size
 | [],h=>h
 | _::_,h=>marks.base h.2
theorem afk {a b:Nat} (h:mark a=mark b):a=b:=by
 simp [mark] at h
 exact h
structure ep (P:Program) (N:Nat) (B:Nat) (ρ:aK) (f:Nat→Value) (h:ae) (a:Act) (w:World):Prop where
 size:a.tmps.size=N
 defers:marks B a.defers w
 tmp:∀t,ax ρ (f t) (a.tmps.getD t Go.undef)
 heap:aZ P ρ h w
def xH (f:Nat→Value) (t:Nat) (v:Value):Nat→Value:=fun j=>match Nat.beq j t with | true=>v | false=>f j
theorem tj (f:Nat→Value) (t:Nat) (v:Value):xH f t v=fun j=>if j=t then v else f j:=by
 funext j
 unfold xH
 split
 ·rename_i h;rw [if_pos (Nat.eq_of_beq_eq_true h)]
 ·rename_i h;rw [if_neg (Nat.ne_of_beq_eq_false h)]
def ev (f:Nat→Value):Operand→Value
 | .tmp t=>f t
 | .const v=>v
 | .global g=>.pointer (some ⟨g,0,none⟩)
 | .func f=>.func (.func f) #[] #[]
def me:Value→Bool
 | .bool _ | .int .. | .string _ | .nilFunc | .nilIface=>true
 | .pointer none | .map none=>true
 | .slice none 0 0=>true
 | _=>false
def jy:Operand→Bool
 | .tmp _=>true
 | .const v=>me v
 | .global _=>false
 | .func _=>true
theorem me.rel {ρ:aK} {v:Value} (h:me v=true):ax ρ v v:=by
 unfold me at h
 split at h
 ·exact .bool _
 ·exact .int _ _
 ·exact .string _
 ·exact .nilFunc
 ·exact .nilIface
 ·exact .ue
 ·exact .uc
 ·exact .qO
 ·simp at h
theorem ep.ev {P:Program} {N B:Nat} {ρ:aK} {f:Nat→Value} {h:ae} {a:Act} {w:World} (R:ep P N B ρ f h a w) {x:Operand} (hx:jy x=true):
  ax ρ (ev f x) (a.eval x):=by
 cases x with
 | tmp t=>exact R.tmp t
 | const v=>exact me.rel hx
 | global g=>simp [jy] at hx
 | func g=>exact .func g rfl rfl (fun k x x' e e'=>by simp at e) (fun k x x' e e'=>by simp at e)
theorem ep.put {P:Program} {N B:Nat} {ρ av:aK} {f:Nat→Value} {h h':ae} {a:Act} {w w':World} (R:ep P N B ρ f h a w) {d:Nat} (hd:d<N) {v v':Value}
  (T:Tr ρ h w av h' w') (hv:ax av v v') (H:aZ P av h' w'):ep P N B av (xH f d v) h' (a.put (some d) v') w' where
 size:=by simp [Act.put,R.size]
 defers:=marks.tr R.heap T R.defers
 tmp:=by
  intro t
  simp only [tj]
  by_cases ht:t=d
  ·subst ht
   have:t<a.tmps.size:=by rw [R.size];exact hd
   simp [Act.put,Array.getD,this]
   exact hv
  ·rw [if_neg ht]
   have:=(R.tmp t).mono T.ext
   have e:((a.put (some d) v').tmps.getD t Go.undef)=a.tmps.getD t Go.undef:=by
    simp only [Act.put,Array.getD_eq_getD_getElem?,Array.getElem?_setIfInBounds]
    rw [if_neg (by omega)]
   rw [e]
   exact this
 heap:=H
theorem ep.mono {P:Program} {N B:Nat} {ρ av:aK} {f:Nat→Value} {h h':ae} {a:Act} {w w':World} (R:ep P N B ρ f h a w) (T:Tr ρ h w av h' w') (H:aZ P av h' w'):
  ep P N B av f h' a w':=⟨R.size,marks.tr R.heap T R.defers,fun t=>(R.tmp t).mono T.ext,H⟩
end
section
def S (l:List UInt8):Value:=.string ⟨l.toArray⟩
def bytes (s:ByteArray):List UInt8:=s.data.toList
theorem ap5 (l:List UInt8):bytes ⟨l.toArray⟩=l:=by simp [bytes]
theorem Ex (s:ByteArray):(⟨(bytes s).toArray⟩:ByteArray)=s:=by simp [bytes]
inductive p7 where
 | mv (x:Operand)
 | pick (c a b:Operand)
 | bin (op:BinOp) (x y:Operand)
 | HZ (neg:Bool) (x y:Operand)
 | H4 (neg:Bool) (x y:Operand)
 | un (op:UnOp) (x:Operand)
 | conv (k:IntKind) (x:Operand)
 | UR (x:Operand)
 | R6 (x:Operand)
 | R7 (x:Operand)
 | Jg (n:Nat)
 | Ev (mx:Bool) (xs:List Operand)
 | RE (x i:Operand)
 | RC (n aX:Nat) (agg:Bool) (x i:Operand)
 | N5 (aX:Nat) (x i:Operand)
 | N4 (n aX:Nat) (x i:Operand)
 | PJ (off:Nat) (x:Operand)
 | PN (agg:Bool) (off sz:Nat) (x:Operand)
 | KF (x:Operand) (lo hi:Option Operand)
 | KG (e:TypeId) (aX:Nat) (x:Operand) (lo hi:Option Operand)
 | Ss (x:Operand)
 | fn (f:FuncId) (first captured:List Operand)
 | ext (x:Operand) (i:Nat)
 | build (zero:List Value) (parts:List (Nat×Nat×Operand))
 | RD (f:FuncId) (x c:Operand)
def hI (op:BinOp) (k:IntKind) (a b:Int):Option Value:=
 match op with
 | .add=>some (.int k (k.wrap (a+b)))
 | .sub=>some (.int k (k.wrap (a-b)))
 | .mul=>some (.int k (k.wrap (a*b)))
 | .quo=>if b=0 then none else some (.int k (k.wrap (a.tdiv b)))
 | .rem=>if b=0 then none else some (.int k (a.tmod b))
 | .and=>some (.int k (k.wrap (BitVec.ofInt k.bits a &&& BitVec.ofInt k.bits b).toNat))
 | .or=>some (.int k (k.wrap (BitVec.ofInt k.bits a ||| BitVec.ofInt k.bits b).toNat))
 | .xor=>some (.int k (k.wrap (BitVec.ofInt k.bits a^^^BitVec.ofInt k.bits b).toNat))
 | .andNot=>some (.int k (k.wrap (BitVec.ofInt k.bits a &&& ~~~BitVec.ofInt k.bits b).toNat))
 | .eql=>some (.bool (decide (a=b)))
 | .neq=>some (.bool (!decide (a=b)))
 | .lss=>some (.bool (decide (a<b)))
 | .leq=>some (.bool (decide (a≤b)))
 | .gtr=>some (.bool (decide (b<a)))
 | .geq=>some (.bool (decide (b≤a)))
 | _=>none
def qG (op:BinOp) (k:IntKind) (a b:Int):Option Value:=
 if b<0 then none else
 match op with
 | .shl=>some (.int k (k.wrap (a*2^(min b.toNat k.bits))))
 | .shr=>some (.int k (a.fdiv (2^(min b.toNat k.bits))))
 | _=>none
def xu (op:BinOp) (a b:List UInt8):Option Value:=
 match op with
 | .add=>if a.length+b.length≤maxLen then some (S (a++b)) else none
 | .eql=>some (.bool (decide (a=b)))
 | .neq=>some (.bool (!decide (a=b)))
 | .lss=>some (.bool (Op.bytesLess a b))
 | .leq=>some (.bool (Op.bytesLess a b||decide (a=b)))
 | .gtr=>some (.bool (!(Op.bytesLess a b||decide (a=b))))
 | .geq=>some (.bool (!Op.bytesLess a b))
 | _=>none
def ai (op:BinOp) (x y:Value):Option Value:=
 match x,y with
 | .int k a,.int k' b=>
  match op with
  | .shl=>qG .shl k a b
  | .shr=>qG .shr k a b
  | op=>if k=k' then hI op k a b else none
 | .string s,.string t=>xu op (bytes s) (bytes t)
 | _,_=>none
def tU (neg:Bool) (x y:Value):Option Value:=
 match x,y with
 | .bool a,.bool b=>some (.bool (if neg then !(a==b) else a==b))
 | _,_=>none
def I6:Value→Option Bool
 | .slice none 0 0=>some true
 | .slice (some _) _ _=>some false
 | _=>none
def Rv (neg:Bool) (x y:Value):Option Value:=
 match I6 x,I6 y with
 | some a,some b=>if a||b then some (.bool (if neg then !(a&&b) else a&&b)) else none
 | _,_=>none
def gw (op:UnOp) (x:Value):Option Value:=
 match op,x with
 | .neg,.int k n=>some (.int k (k.wrap (0-n)))
 | .not,.bool b=>some (.bool !b)
 | .xor,.int k n=>some (.int k (k.wrap (BitVec.ofInt k.bits (if k.signed then -1 else k.max)^^^BitVec.ofInt k.bits n).toNat))
 | _,_=>none
def dh (k:IntKind):Value→Option Value
 | .int _ n=>some (.int k (k.wrap n))
 | _=>none
def aem:Value→Option Value
 | .string s=>some (.string s)
 | _=>none
def gv:Value→Option Value
 | .string s=>some (.int .i64 (bytes s).length)
 | _=>none
def bj:Value→Option Value
 | .slice _ n _=>some (.int .i64 n)
 | _=>none
def max2 (mx:Bool):Value→Value→Option Value
 | .int k x,.int _ y=>some (.int k (if mx then (if y>x then y else x) else (if y<x then y else x)))
 | _,_=>none
def xr (mx:Bool):List Value→Option Value
 | .int k x::rest=>rest.foldlM (max2 mx) (.int k x)
 | _=>none
def jP (x i:Value):Option Value:=
 match x,i with
 | .string s,.int _ i=>if 0≤i then ((bytes s)[i.toNat]?).map fun b=>.int .u8 b.toNat else none
 | _,_=>none
def cf (agg:Bool) (off sz:Nat) (cs:List Value):Option Value:=
 if agg then (if off+sz≤cs.length then some (.agg ((cs.drop off).take sz).toArray) else none) else cs[off]?
def Rw (n aX:Nat) (agg:Bool) (x i:Value):Option Value:=
 match x,i with
 | .agg cs,.int _ i=>if 0≤i∧i<n then cf agg (i.toNat*aX) aX cs.toList else none
 | _,_=>none
def bc (aX:Nat) (x i:Value):Option Value:=
 match x,i with
 | .slice (some ⟨id,o,some _⟩) n _,.int _ i=>if 0≤i∧i<n then some (.pointer (some ⟨id,o+i.toNat*aX,none⟩)) else none
 | _,_=>none
def lK (n aX:Nat) (x i:Value):Option Value:=
 match x,i with
 | .pointer (some ⟨id,o,none⟩),.int _ i=>if 0≤i∧i<n then some (.pointer (some ⟨id,o+i.toNat*aX,none⟩)) else none
 | _,_=>none
def aL (off:Nat) (x:Value):Option Value:=
 match x with
 | .pointer (some ⟨id,o,none⟩)=>some (.pointer (some ⟨id,o+off,none⟩))
 | _=>none
def zt (agg:Bool) (off sz:Nat) (x:Value):Option Value:=
 match x with
 | .agg cs=>cf agg off sz cs.toList
 | _=>none
def sX:Value→Option Nat
 | .int _ i=>if 0≤i then some i.toNat else none
 | _=>none
def rM (n:Nat) (lo hi:Option Value):Option (Nat×Nat):=
 match (match lo with | none=>some 0 | some v=>sX v),(match hi with | none=>some n | some v=>sX v) with
 | some l,some h=>if l≤h∧h≤n then some (l,h) else none
 | _,_=>none
def kV (x:Value) (lo hi:Option Value):Option Value:=
 match x with
 | .string s=>(rM (bytes s).length lo hi).map fun (l,h)=>S (((bytes s).take h).drop l)
 | _=>none
def mo (e:TypeId) (aX:Nat) (x:Value) (lo hi:Option Value):Option Value:=
 match x with
 | .slice none 0 0=>(rM 0 lo hi).map fun _=>.slice none 0 0
 | .slice (some ⟨id,o,some e'⟩) n _=>
  if e'=e then (rM n lo hi).map fun (l,h)=>.slice (some ⟨id,o+l*aX,some e⟩) (h-l) (h-l) else none
 | _=>none
def xt (x:Value):Option Value:=
 match x with
 | .pointer (some a)=>some (.pointer (some a))
 | .func f a b=>some (.func f a b)
 | _=>none
def b9 (i:Nat) (x:Value):Option Value:=
 match x with
 | .tuple vs=>vs[i]?
 | _=>none
def setAt (xs:List Value) (o:Nat) (vs:List Value):List Value:=xs.take o++vs++xs.drop (o+vs.length)
def su:List Value→List (Nat×Nat×Value)→Option (List Value)
 | xs,[]=>some xs
 | xs,(off,size,v)::rest=>
  if iA v∧(de v).length=size∧off+size≤xs.length then su (setAt xs off (de v)) rest else none
def dc (zero:List Value) (parts:List (Nat×Nat×Value)):Option Value:=(su zero parts).map fun cs=>.agg cs.toArray
def bP (c a b:Value):Option Value:=
 match c with
 | .bool t=>some (if t then a else b)
 | _=>none
def Eg (x c:Value):Option Value:=
 match x,c with
 | .string s,.int .u8 c=>some (.int .i64 (Lib.indexByte (bytes s) c.toNat.toUInt8))
 | _,_=>none
def jx (o:p7) (g:Operand→Value):Option Value:=
 match o with
 | .mv x=>some (g x)
 | .pick c a b=>bP (g c) (g a) (g b)
 | .bin op x y=>ai op (g x) (g y)
 | .HZ neg x y=>tU neg (g x) (g y)
 | .H4 neg x y=>Rv neg (g x) (g y)
 | .un op x=>gw op (g x)
 | .conv k x=>dh k (g x)
 | .UR x=>aem (g x)
 | .R6 x=>gv (g x)
 | .R7 x=>bj (g x)
 | .Jg n=>some (.int .i64 n)
 | .Ev mx xs=>xr mx (xs.map g)
 | .RE x i=>jP (g x) (g i)
 | .RC n aX agg x i=>Rw n aX agg (g x) (g i)
 | .N5 aX x i=>bc aX (g x) (g i)
 | .N4 n aX x i=>lK n aX (g x) (g i)
 | .PJ off x=>aL off (g x)
 | .PN agg off sz x=>zt agg off sz (g x)
 | .KF x lo hi=>kV (g x) (lo.map g) (hi.map g)
 | .KG e aX x lo hi=>mo e aX (g x) (lo.map g) (hi.map g)
 | .Ss x=>xt (g x)
 | .fn f first captured=>some (.func (.func f) (first.map g).toArray (captured.map g).toArray)
 | .ext x i=>b9 i (g x)
 | .build zero parts=>dc zero (parts.map fun (o,s,x)=>(o,s,g x))
 | .RD f x c=>
  match g (.func f) with
  | .func (.func f') a b=>if f'=f∧a.size=0∧b.size=0 then Eg (g x) (g c) else none
  | _=>none
def ow:TypeDesc→Bool
 | .struct _ | .array _ _=>true
 | _=>false
def AQ (v:Value):Bool:=me v&&gy v
def zeroOf (P:Program) (t:TypeId):Option (List Value):=
 match P.info? t with
 | some i=>match i.zero with
  | some z=>if iA z&&(de z).all AQ&&(de z).length==i.size then some (de z) else none
  | none=>none
 | none=>none
def placesOf (P:Program) (fs:Array Field):List (Nat×Nat):=fs.toList.map fun f=>(f.offset,P.cellsOf f.type)
def iI (P:Program) (t:TypeId):Bool:=(P.info? t).isSome
def PE (P:Program) (f:FuncId):Bool:=
 match P.funcs[f]? with
 | some fn=>fn.body.isNone&&fn.name== "internal/bytealg.IndexByteString" &&(Extern.findNext fn).isNone
 | none=>false
def iQ (P:Program):Op→Option p7
 | .move x | .assign x=>some (.mv x)
 | .pick c a b=>some (.pick c a b)
 | .binOp op t x y _=>
  match op,P.underlying t with
  | .eql,some .bool=>some (.HZ false x y)
  | .neq,some .bool=>some (.HZ true x y)
  | .eql,some (.slice _)=>some (.H4 false x y)
  | .neq,some (.slice _)=>some (.H4 true x y)
  | op,_=>some (.bin op x y)
 | .unOp op _ x=>some (.un op x)
 | .convert s d x=>
  match P.underlying s,P.underlying d with
  | some (.int _),some (.int k)=>some (.conv k x)
  | some .string,some .string=>some (.UR x)
  | _,_=>none
 | .call { callee:=.builtin .len,args,argTypes }=>
  match args.toList,argTypes.toList with
  | [x],[t]=>
   match P.underlying t with
   | some .string=>some (.R6 x)
   | some (.slice _)=>some (.R7 x)
   | some (.array n _)=>some (.Jg n)
   | _=>none
  | _,_=>none
 | .call { callee:=.builtin .min,args,argTypes:=_ }=>some (.Ev false args.toList)
 | .call { callee:=.builtin .max,args,argTypes:=_ }=>some (.Ev true args.toList)
 | .call { callee:=.value (.func f),args,argTypes:=_ }=>
  match args.toList with
  | [x,c]=>if PE P f then some (.RD f x c) else none
  | _=>none
 | .index t x i=>
  match P.underlying t with
  | some .string=>some (.RE x i)
  | some (.array n e)=>
   match P.underlying e with
   | some d=>if iI P e&&(ow d||P.cellsOf e==1) then some (.RC n (P.cellsOf e) (ow d) x i) else none
   | none=>none
  | _=>none
 | .indexAddr t x i=>
  match P.underlying t with
  | some (.slice e)=>if iI P e then some (.N5 (P.cellsOf e) x i) else none
  | some (.array n e)=>if iI P e then some (.N4 n (P.cellsOf e) x i) else none
  | _=>none
 | .fieldAddr t x f=>
  match P.underlying t with
  | some (.struct fs)=>
   match fs[f]? with
   | some fd=>if iI P fd.type&&P.cellsOf fd.type != 0 then some (.PJ fd.offset x) else none
   | none=>none
  | _=>none
 | .field t x f=>
  match P.underlying t with
  | some (.struct fs)=>
   match fs[f]? with
   | some fd=>
    match P.underlying fd.type with
    | some d=>if iI P fd.type&&(ow d||P.cellsOf fd.type==1) then some (.PN (ow d) fd.offset (P.cellsOf fd.type) x) else none
    | none=>none
   | none=>none
  | _=>none
 | .slice t x lo hi mx=>
  match P.underlying t,mx with
  | some .string,none=>some (.KF x lo hi)
  | some (.slice e),none=>if iI P e then some (.KG e (P.cellsOf e) x lo hi) else none
  | _,_=>none
 | .nilCheck x=>some (.Ss x)
 | .makeFunc (.func f) first captured=>some (.fn f first.toList captured.toList)
 | .extract x i=>some (.ext x i)
 | .build t parts=>
  match P.underlying t,zeroOf P t with
  | some (.struct fs),some z=>
   if fs.all fun f=>iI P f.type then
    match parts.toList.mapM (m:=Option) fun (i,x)=>(placesOf P fs)[i]? |>.map fun (o,s)=>(o,s,x) with
    | some ps=>some (.build z ps)
    | none=>none
   else none
  | some (.array _ e),some z=>if iI P e then some (.build z (parts.toList.map fun (i,x)=>(i*P.cellsOf e,P.cellsOf e,x))) else none
  | _,_=>none
 | _=>none
end
section
theorem ax.mw {ρ:aK} {k:IntKind} {n:Int} {v:Value} (h:ax ρ (.int k n) v):v=.int k n:=by cases h;rfl
theorem ax.ye {ρ:aK} {b:Bool} {v:Value} (h:ax ρ (.bool b) v):v=.bool b:=by cases h;rfl
theorem ax.we {ρ:aK} {s:ByteArray} {v:Value} (h:ax ρ (.string s) v):v=.string s:=by cases h;rfl
theorem ax.S (ρ:aK) (l:List UInt8):ax ρ (S l) (S l):=.string _
theorem toList_eq (s:ByteArray):s.toList=bytes s:=by
 obtain ⟨⟨l⟩⟩:=s
 exact ByteArray.toList_mk l
theorem ap4 (s t:ByteArray):(s.toList==t.toList)=decide (bytes s=bytes t):=by
 rw [toList_eq,toList_eq]
 by_cases h:bytes s=bytes t <;> simp [h]
theorem Fa (s:ByteArray):s.size=(bytes s).length:=by simp [bytes]
theorem apW (s t:ByteArray):s++t=⟨(bytes s++bytes t).toArray⟩:=by
 apply ByteArray.ext
 apply ext'
 simp [bytes]
section
variable (P : Program) (w : World)
theorem aC3 {op:BinOp} {k:IntKind} {a b:Int} {v:Value} (t:TypeId) (c8:op≠ .shl) (awb:op≠ .shr) (h:hI op k a b=some v):
  (binOp op t (.int k a) (.int k b)).run P w=.ok v w:=by
 cases op <;> simp [hI] at h <;> simp at c8 awb <;> (first | subst h | (obtain ⟨hb,h⟩:=h;subst h)) <;>
  simp_all [binOp,Op.intArith,Op.intDiv,Op.intBits,Op.intCmp]
 ·rw [Bool.eq_iff_iff];simp
 ·rw [Bool.eq_iff_iff];simp
theorem alA {op:BinOp} {k k':IntKind} {a b:Int} {v:Value} (t:TypeId) (c8:op=.shl∨op=.shr) (h:qG op k a b=some v):
  (binOp op t (.int k a) (.int k' b)).run P w=.ok v w:=by
 unfold qG at h
 by_cases hb:b<0
 ·rw [if_pos hb] at h;cases h
 ·rw [if_neg hb] at h
  rcases c8 with rfl | rfl <;> simp at h <;> subst h <;> simp [binOp,Op.shift,hb]
theorem aDh {op:BinOp} {s s':ByteArray} {v:Value} (t:TypeId) (h:xu op (bytes s) (bytes s')=some v):
  (binOp op t (.string s) (.string s')).run P w=.ok v w:=by
 have e1:=ap4 s s'
 have hl:IntKind.i64.max=9223372036854775807:=rfl
 cases op <;> simp [xu] at h <;> (first | subst h | (obtain ⟨hb,h⟩:=h;subst h)) <;> simp only [binOp,Op.stringOp]
 all_goals first
  | (rw [e1];simp [toList_eq];done)
  | (simp [toList_eq];done)
  | skip
 ·unfold maxLen at hb
  rw [if_neg (by rw [hl,Fa,Fa];omega)]
  rw [apW]
  rfl
theorem aCJ (op:BinOp) (t:TypeId) (x y:Operand) (k k':IntKind) (a b:Int):(eqGuard op t x y (.int k a) (.int k' b)).run P w=.ok () w:=by
 unfold eqGuard
 cases op <;> simp
theorem aCL (op:BinOp) (t:TypeId) (x y:Operand) (a b:ByteArray):(eqGuard op t x y (.string a) (.string b)).run P w=.ok () w:=by
 unfold eqGuard
 cases op <;> simp
theorem aCI (op:BinOp) (t:TypeId) (x y:Operand) (a b:Bool):(eqGuard op t x y (.bool a) (.bool b)).run P w=.ok () w:=by
 unfold eqGuard
 cases op <;> simp
theorem aCK (op:BinOp) (t:TypeId) (x y:Operand) (a b:Option Addr) (n m c d:Nat):(eqGuard op t x y (.slice a n c) (.slice b m d)).run P w=.ok () w:=by
 unfold eqGuard
 cases op <;> simp
theorem aCR {ρ:aK} {op:BinOp} {x y x' y' v:Value} (t:TypeId) (ox oy:Operand) (h:ai op x y=some v) (hx:ax ρ x x') (hy:ax ρ y y'):
  (do eqGuard op t ox oy x' y';binOp op t x' y':Sem Value).run P w=.ok v w∧ax ρ v v:=by
 unfold ai at h
 split at h
 ·rename_i k a k' b
  rw [hx.mw,hy.mw]
  have hv:(binOp op t (.int k a) (.int k' b)).run P w=.ok v w∧ax ρ v v:=by
   split at h
   ·refine ⟨alA P w t (.inl rfl) h,?_⟩
    unfold qG at h
    split at h <;> simp at h
    subst h;exact .int _ _
   ·refine ⟨alA P w t (.inr rfl) h,?_⟩
    unfold qG at h
    split at h <;> simp at h
    subst h;exact .int _ _
   ·rename_i h1 h2
    split at h
    ·rename_i hk
     subst hk
     refine ⟨aC3 P w t h1 h2 h,?_⟩
     cases op <;> simp [hI] at h <;> (first | subst h | (obtain ⟨_,h⟩:=h;subst h)) <;> first | exact .int _ _ | exact .bool _
    ·cases h
  simp only [Sem.run_bind,aCJ,Result.andThen_ok]
  exact hv
 ·rename_i s s'
  rw [hx.we,hy.we]
  simp only [Sem.run_bind,aCL,Result.andThen_ok]
  refine ⟨aDh P w t h,?_⟩
  cases op <;> simp [xu] at h <;> (first | subst h | (obtain ⟨_,h⟩:=h;subst h)) <;> first | exact .string _ | exact .bool _
 ·cases h
theorem als {ρ:aK} {neg:Bool} {op:BinOp} {x y x' y' v:Value} (t:TypeId) (ox oy:Operand) (ht:P.underlying t=some .bool) (c8:op=if neg then .neq else .eql)
  (h:tU neg x y=some v) (hx:ax ρ x x') (hy:ax ρ y y'):
  (do eqGuard op t ox oy x' y';binOp op t x' y':Sem Value).run P w=.ok v w∧ax ρ v v:=by
 unfold tU at h
 split at h
 ·rename_i a b
  rw [hx.ye,hy.ye]
  simp only [Sem.run_bind,aCI,Result.andThen_ok]
  simp at h
  subst h
  refine ⟨?_,.bool _⟩
  cases neg <;> simp at c8 <;> subst c8
  ·exact run_eql_bool w t a b ht
  ·exact run_neq_bool w t a b ht
 ·cases h
theorem alu {ρ:aK} {neg:Bool} {op:BinOp} {x y x' y' v:Value} {e:TypeId} (t:TypeId) (ox oy:Operand) (ht:P.underlying t=some (.slice e)) (c8:op=if neg then .neq else .eql)
  (h:Rv neg x y=some v) (hx:ax ρ x x') (hy:ax ρ y y'):
  (do eqGuard op t ox oy x' y';binOp op t x' y':Sem Value).run P w=.ok v w∧ax ρ v v:=by
 unfold Rv at h
 split at h
 ·rename_i a b ha hb
  split at h
  ·rename_i gX
   simp at h
   subst h
   refine ⟨?_,.bool _⟩
   cases hx <;> simp [I6] at ha <;> cases hy <;> simp [I6] at hb <;> subst ha <;> subst hb <;> simp at gX
   all_goals
    simp only [Sem.run_bind,aCK,Result.andThen_ok]
    cases neg <;> simp at c8 <;> subst c8 <;> simp only [Lib.run_eql_slice_nil w t e _ _ _ _ _ ht,run_neq_slice_nil_any w t e _ _ _ _ _ ht,run_eql_nil_slice w t e _ _ _ _ _ ht,run_neq_nil_slice w t e _ _ _ _ _ ht] <;> simp
  ·cases h
 ·cases h
theorem aDi {ρ:aK} {op:UnOp} {x x' v:Value} (h:gw op x=some v) (hx:ax ρ x x'):(Op.unary op x').run P w=.ok v w∧ax ρ v v:=by
 unfold gw at h
 split at h
 ·rw [hx.mw];simp at h;subst h;exact ⟨by simp [Op.unary,Op.intArith],.int _ _⟩
 ·rw [hx.ye];simp at h;subst h;exact ⟨by simp [Op.unary],.bool _⟩
 ·rw [hx.mw];simp only [Option.some.injEq] at h;subst h;exact ⟨rfl,.int _ _⟩
 ·cases h
end
end
section
section
variable {P : Program} (w : World)
theorem aw5 {t:TypeId} (h:iI P t=true):∃i,P.info? t=some i:=by
 unfold iI at h
 exact Option.isSome_iff_exists.1 h
theorem qU {t:TypeId} (h:iI P t=true):(sizeOf t).run P w=.ok (P.cellsOf t) w:=by
 obtain ⟨i,hi⟩:=aw5 h
 exact run_sizeOf w hi
theorem UE {t:TypeId} {d:TypeDesc} (h:P.underlying t=some d):(isAgg t).run P w=.ok (ow d) w:=by
 cases d <;> simp [isAgg,run_underlying h,ow]
theorem ayl {mx:Bool} {k:IntKind} {x:Int} {y v:Value} (h:max2 mx (.int k x) y=some v):∃k' b,y=.int k' b∧∃z,v=.int k z:=by
 unfold max2 at h
 split at h
 ·rename_i k2 x2 k3 y2 e
  cases e
  simp at h
  exact ⟨k3,y2,rfl,_,h.symm⟩
 ·cases h
theorem UF {ρ:aK} {mx:Bool}:∀{xs fx:List Value} {k:IntKind} {x:Int} {v:Value},xs.foldlM (max2 mx) (.int k x)=some v→bF ρ xs fx→
  (fx.foldlM (if mx then Builtin.max2 else Builtin.min2) (.int k x):Sem Value).run P w=.ok v w∧ax ρ v v
 | [],fx,k,x,v,h,hs=>by
  cases hs
  simp at h
  subst h
  exact ⟨rfl,.int _ _⟩
 | y::xs,fx,k,x,v,h,hs=>by
  cases hs with
  | cons hy hs=>
   simp only [List.foldlM_cons,Option.bind_eq_bind,bind_eq_some_iff] at h
   obtain ⟨u,hu,h⟩:=h
   obtain ⟨k',b,rfl,z,rfl⟩:=ayl hu
   have ih:=UF (ρ:=ρ) h hs
   refine ⟨?_,ih.2⟩
   rw [hy.mw]
   simp only [List.foldlM_cons,Sem.run_bind]
   simp only [max2,Option.some.injEq,Value.int.injEq,true_and] at hu
   cases mx
   ·simp at hu⊢
    simp only [Builtin.min2,Sem.run_pure,Result.andThen_ok,hu]
    simpa using ih.1
   ·simp at hu⊢
    simp only [Builtin.max2,Sem.run_pure,Result.andThen_ok,gt_iff_lt,hu]
    simpa using ih.1
theorem aC2 {ρ:aK} {t:TypeId} {x i x' i' v:Value} (ht:P.underlying t=some .string) (h:jP x i=some v) (hx:ax ρ x x') (hi:ax ρ i i'):
  (Instr.index t x' i').run P w=.ok v w∧ax ρ v v:=by
 unfold jP at h
 split at h
 ·rename_i s k j
  rw [hx.we,hi.mw]
  split at h
  ·rename_i h0
   simp only [map_eq_some_iff] at h
   obtain ⟨b,hb,rfl⟩:=h
   refine ⟨?_,.int _ _⟩
   have kB:s[j.toNat]?=some b:=by
    have aD:=(bK hb).1
    have:j.toNat<s.size:=by rw [Fa];exact aD
    rw [getElem?_pos s j.toNat this]
    have e:=(bK hb).2
    simp only [bytes,Array.getElem_toList] at e
    rw [←e]
    rfl
   simp [Instr.index,asIntOf,run_underlying ht,h0,kB]
  ·cases h
 ·cases h
theorem awR {ρ:aK} {agg:Bool} {off sz:Nat} {cs:List Value} {ju:Array Value} {v:Value} (h:cf agg off sz cs=some v) (hs:bF ρ cs ju.toList) (h1:∀x∈cs,gy x=true):
  ∃v',(if agg then some (.agg (ju.extract off (off+sz))) else ju[off]?)=some v'∧ax ρ v v':=by
 unfold cf at h
 cases agg
 ·simp at h⊢
  obtain ⟨y,hy,hr⟩:=hs.get h
  exact ⟨y,by simpa using hy,hr⟩
 ·simp at h⊢
  obtain ⟨hl,rfl⟩:=h
  have:=((hs.drop off).take sz)
  have e:(ju.extract off (off+sz))=((ju.toList.drop off).take sz).toArray:=by
   apply ext'
   simp [List.take_drop]
  rw [e]
  exact .AK this (fun x hx=>h1 x (List.mem_of_mem_drop (List.mem_of_mem_take hx)))
theorem alz {ρ:aK} {t:TypeId} {d:TypeDesc} {off:Nat} {cs:List Value} {ju:Array Value} {v:Value} (ht:P.underlying t=some d) (hk:iI P t=true)
  (h:cf (ow d) off (P.cellsOf t) cs=some v) (hs:bF ρ cs ju.toList) (h1:∀x∈cs,gy x=true):
  ∃v',(part t ju off).run P w=.ok v' w∧ax ρ v v':=by
 obtain ⟨v',hv,hr⟩:=awR h hs h1
 refine ⟨v',?_,hr⟩
 unfold part
 simp only [Sem.run_bind,UE w ht,Result.andThen_ok]
 cases hd:ow d
 ·rw [hd] at hv
  simp at hv⊢
  rw [hv]
  rfl
 ·rw [hd] at hv
  simp at hv⊢
  simp only [qU w hk,Result.andThen_ok,hv]
theorem ax.Yc {ρ:aK} {cs:Array Value} {x':Value} (h:ax ρ (.agg cs) x'):∃ju,x'=.agg ju∧bF ρ cs.toList ju.toList∧∀x∈cs.toList,gy x=true:=by
 cases h with
 | agg hs h1 h=>exact ⟨_,rfl,bF.ti hs h,h1⟩
theorem aC1 {ρ:aK} {t e:TypeId} {d:TypeDesc} {n:Nat} {x i x' i' v:Value} (ht:P.underlying t=some (.array n e)) (he:P.underlying e=some d) (hk:iI P e=true)
  (h:Rw n (P.cellsOf e) (ow d) x i=some v) (hx:ax ρ x x') (hi:ax ρ i i'):
  ∃v',(Instr.index t x' i').run P w=.ok v' w∧ax ρ v v':=by
 unfold Rw at h
 split at h
 ·rename_i cs k j
  obtain ⟨ju,rfl,hs,h1⟩:=hx.Yc
  rw [hi.mw]
  split at h
  ·rename_i h0
   obtain ⟨v',hr,hv⟩:=alz w he hk h hs h1
   refine ⟨v',?_,hv⟩
   simp [Instr.index,asIntOf,run_underlying ht,h0,qU w hk,hr]
  ·cases h
 ·cases h
theorem aC0 {ρ:aK} {t:TypeId} {fs:Array Field} {f:Nat} {fd:Field} {d:TypeDesc} {x x' v:Value} (ht:P.underlying t=some (.struct fs)) (hf:fs[f]?=some fd) (he:P.underlying fd.type=some d)
  (hk:iI P fd.type=true) (h:zt (ow d) fd.offset (P.cellsOf fd.type) x=some v) (hx:ax ρ x x'):
  ∃v',(Instr.field t x' f).run P w=.ok v' w∧ax ρ v v':=by
 unfold zt at h
 split at h
 ·rename_i cs
  obtain ⟨ju,rfl,hs,h1⟩:=hx.Yc
  obtain ⟨v',hr,hv⟩:=alz w he hk h hs h1
  refine ⟨v',?_,hv⟩
  simp [Instr.field,run_underlying ht,hf,asAgg,hr]
 ·cases h
theorem aCN {ρ:aK} {t e:TypeId} {x i x' i' v:Value} (ht:P.underlying t=some (.slice e)) (hk:iI P e=true)
  (h:bc (P.cellsOf e) x i=some v) (hx:ax ρ x x') (hi:ax ρ i i'):
  ∃v',(Instr.indexAt t x' i').run P w=.ok v' w∧ax ρ v v':=by
 unfold bc at h
 split at h
 ·rename_i id o e' n c k j
  split at h
  ·rename_i h0
   simp at h
   subst h
   rw [hi.mw]
   cases hx with
   | slice hr ho hn hc hb=>
    rename_i o' c' r
    have dO:o'=r.sh+o:=by
     rcases ho with ho | ⟨h1,h2,h3⟩
     ·exact ho
     ·omega
    subst dO
    refine ⟨_,?_,ax.ptr hr⟩
    simp [Instr.indexAt,asIntOf,run_underlying ht,h0,qU w hk,Addr.add_lit,Nat.add_assoc]
  ·cases h
 ·cases h
theorem ax.E2 {ρ:aK} {id o:Nat} {x':Value} (h:ax ρ (.pointer (some ⟨id,o,none⟩)) x'):∃r,ρ id=some r∧x'=.pointer (some ⟨r.bw,r.sh+o,none⟩):=by
 cases h with
 | ptr hr=>exact ⟨_,hr,rfl⟩
theorem aCM {ρ:aK} {t e:TypeId} {n:Nat} {x i x' i' v:Value} (ht:P.underlying t=some (.array n e)) (hk:iI P e=true)
  (h:lK n (P.cellsOf e) x i=some v) (hx:ax ρ x x') (hi:ax ρ i i'):
  ∃v',(Instr.indexAt t x' i').run P w=.ok v' w∧ax ρ v v':=by
 unfold lK at h
 split at h
 ·rename_i id o k j
  split at h
  ·rename_i h0
   simp at h
   subst h
   rw [hi.mw]
   obtain ⟨r,hr,rfl⟩:=hx.E2
   refine ⟨_,?_,ax.ptr hr⟩
   simp [Instr.indexAt,asIntOf,run_underlying ht,h0,qU w hk,Instr.sureAddr,Addr.add_lit,Nat.add_assoc]
  ·cases h
 ·cases h
theorem aCZ {ρ:aK} {t:TypeId} {fs:Array Field} {f:Nat} {fd:Field} {x x' v:Value} (ht:P.underlying t=some (.struct fs)) (hf:fs[f]?=some fd) (hk:iI P fd.type=true)
  (hz:P.cellsOf fd.type≠0) (h:aL fd.offset x=some v) (hx:ax ρ x x'):
  ∃v',(Instr.fieldAt t x' f).run P w=.ok v' w∧ax ρ v v':=by
 unfold aL at h
 split at h
 ·rename_i id o
  simp at h
  subst h
  obtain ⟨r,hr,rfl⟩:=hx.E2
  refine ⟨_,?_,ax.ptr hr⟩
  simp [Instr.fieldAt,run_underlying ht,hf,Instr.sureAddr,fieldPlace,qU w hk,hz,Addr.add_lit,Nat.add_assoc]
 ·cases h
theorem afI {ρ:aK} {v v':Value} {n:Nat} (h:sX v=some n) (hv:ax ρ v v'):∃k i,v'=.int k i∧0≤i∧i.toNat=n:=by
 unfold sX at h
 split at h
 ·rename_i k i
  rw [hv.mw]
  split at h
  ·rename_i h0
   simp at h
   exact ⟨k,i,rfl,h0,h⟩
  ·cases h
 ·cases h
def xQ (ρ:aK):Option Value→Option Value→Prop
 | none,none=>True
 | some a,some b=>ax ρ a b
 | _,_=>False
theorem UD {ρ:aK} {n cap:Nat} {isSlice:Bool} {lo hi oY ik:Option Value} {l h:Nat} (he:rM n lo hi=some (l,h)) (hc:n≤cap) (eD:xQ ρ lo oY) (ji:xQ ρ hi ik):
  (Instr.sliceBounds isSlice n cap oY ik none).run P w=.ok (l,h,cap) w∧l≤h∧h≤n:=by
 unfold rM at he
 split at he
 ·rename_i l1 h1 hl hh
  split at he
  ·rename_i hb
   simp at he
   obtain ⟨rfl,rfl⟩:=he
   refine ⟨?_,hb.1,hb.2⟩
   have bh:∀(v:Value),ik=some v→∃k i,v=.int k i∧0≤i∧i.toNat=h1:=by
    intro v hv
    subst hv
    cases hi with
    | none=>exact ji.elim
    | some u=>exact afI hh ji
   have bh0:ik=none→h1=n:=by
    intro hv
    subst hv
    cases hi with
    | none=>simpa using hh.symm
    | some u=>exact ji.elim
   have bl:∀(v:Value),oY=some v→∃k i,v=.int k i∧0≤i∧i.toNat=l1:=by
    intro v hv
    subst hv
    cases lo with
    | none=>exact eD.elim
    | some u=>exact afI hl eD
   have Yr:oY=none→l1=0:=by
    intro hv
    subst hv
    cases lo with
    | none=>simpa using hl.symm
    | some u=>exact eD.elim
   unfold Instr.sliceBounds
   cases ik with
   | none=>
    obtain rfl:=bh0 rfl
    cases oY with
    | none=>obtain rfl:=Yr rfl;simp
    | some v=>
     obtain ⟨k,i,rfl,h0,rfl⟩:=bl v rfl
     have:i≤(h1:Int):=by omega
     simp [Instr.sliceBound,asIntOf,h0,this]
   | some u=>
    obtain ⟨k,i,rfl,h0,rfl⟩:=bh u rfl
    have DL:i≤(cap:Int):=by omega
    cases oY with
    | none=>obtain rfl:=Yr rfl;simp [Instr.sliceBound,asIntOf,h0,DL]
    | some v=>
     obtain ⟨k2,j,rfl,h2,rfl⟩:=bl v rfl
     have:j≤i:=by omega
     simp [Instr.sliceBound,asIntOf,h0,DL,h2,this,Int.toNat_of_nonneg h0]
  ·cases he
 ·cases he
theorem auW (s:ByteArray) (l h:Nat):s.extract l h=⟨(((bytes s).take h).drop l).toArray⟩:=by
 apply ByteArray.ext
 apply ext'
 simp only [bytes,ByteArray.data_extract,Array.toList_extract,List.drop_take]
theorem aDe {ρ:aK} {t:TypeId} {x x' v:Value} {lo hi oY ik:Option Value} (ht:P.underlying t=some .string) (h:kV x lo hi=some v) (hx:ax ρ x x')
  (eD:xQ ρ lo oY) (ji:xQ ρ hi ik):(Instr.sliceAt t x' oY ik none).run P w=.ok v w∧ax ρ v v:=by
 unfold kV at h
 split at h
 ·rename_i s
  rw [hx.we]
  simp only [map_eq_some_iff,Prod.exists] at h
  obtain ⟨l,u,hb,rfl⟩:=h
  obtain ⟨hr,h1,h2⟩:=UD (P:=P) w (isSlice:=false) hb (le_refl _) eD ji
  refine ⟨?_,ax.S _ _⟩
  rw [←Fa] at hr
  simp [Instr.sliceAt,Instr.slice,run_underlying ht,hr,S,auW]
 ·cases h
theorem aDf {ρ:aK} {t e:TypeId} {x x' v:Value} {lo hi oY ik:Option Value} (hH:∀i r,ρ i=some r→r.aX=P.cellsOf r.elem) (ht:P.underlying t=some (.slice e)) (hk:iI P e=true)
  (h:mo e (P.cellsOf e) x lo hi=some v) (hx:ax ρ x x') (eD:xQ ρ lo oY) (ji:xQ ρ hi ik):
  ∃v',(Instr.sliceAt t x' oY ik none).run P w=.ok v' w∧ax ρ v v':=by
 unfold mo at h
 split at h
 ·simp only [map_eq_some_iff,Prod.exists] at h
  obtain ⟨l,u,hb,rfl⟩:=h
  obtain ⟨hr,h1,h2⟩:=UD (P:=P) w (isSlice:=true) hb (le_refl _) eD ji
  cases hx
  refine ⟨_,?_,.qO⟩
  obtain rfl:u=0:=by omega
  obtain rfl:l=0:=by omega
  simp [Instr.sliceAt,Instr.slice,run_underlying ht,hr,qU w hk]
 ·rename_i id o e' n c
  split at h
  ·rename_i Qp
   subst Qp
   simp only [map_eq_some_iff,Prod.exists] at h
   obtain ⟨l,u,hb,rfl⟩:=h
   cases hx with
   | slice hr ho hn hc Bc=>
    rename_i o' c' r
    obtain ⟨gu,h1,h2⟩:=UD (P:=P) w (isSlice:=true) hb hn eD ji
    have iF:=hH _ _ hr
    by_cases fT:c'=l
    ·refine ⟨.slice (some ⟨r.bw,o',none⟩) (u-l) (c' -l),?_,?_⟩
     ·rw [fT] at gu⊢
      simp [Instr.sliceAt,Instr.slice,run_underlying ht,gu,qU w hk]
     ·refine ax.slice hr ?_ (by omega) (by omega) ?_
      ·rcases Nat.eq_zero_or_pos (l*P.cellsOf r.elem) with hz | hz
       ·rw [hz]
        rcases ho with ho | ⟨q1,q2,q3⟩
        ·exact .inl (by omega)
        ·exact .inr ⟨by omega,by omega,by omega⟩
       ·exact .inr ⟨by omega,by omega,by omega⟩
      ·have:c' -l=0:=by omega
       rw [this]
       have:o'≤o'+c'*r.aX:=Nat.le_add_right _ _
       omega
    ·refine ⟨.slice (some ⟨r.bw,o'+l*P.cellsOf r.elem,none⟩) (u-l) (c' -l),?_,?_⟩
     ·simp [Instr.sliceAt,Instr.slice,run_underlying ht,gu,qU w hk,fT,Addr.add_lit]
     ·refine ax.slice hr ?_ (by omega) (by omega) ?_
      ·rcases ho with ho | ⟨q1,q2,q3⟩
       ·exact .inl (by omega)
       ·exfalso;omega
      ·rw [←iF]
       have e1:l*r.aX+(c' -l)*r.aX=c'*r.aX:=by rw [←add_mul];congr 1;omega
       omega
  ·cases h
 ·cases h
theorem aDc {ρ:aK} {o:Oper} {ox:Operand} {g':Operand→Value} {x v:Value} (ho:o.op=.nilCheck ox) (h:xt x=some v) (hx:ax ρ x (g' ox)):
  ∃v',(execOp g' o).run P w=.ok (.value v') w∧ax ρ v v':=by
 unfold xt at h
 split at h
 ·simp at h
  subst h
  generalize hy:g' ox=y at hx
  have bR:=hx
  cases hx with
  | ptr hr=>
   refine ⟨_,?_,bR⟩
   simp [execOp,ho,hy]
 ·simp at h
  subst h
  generalize hy:g' ox=y at hx
  have bR:=hx
  cases hx with
  | func f a b c d=>
   refine ⟨_,?_,bR⟩
   simp [execOp,ho,hy]
  | yield hr=>
   refine ⟨_,?_,bR⟩
   simp [execOp,ho,hy]
 ·cases h
theorem aCY {ρ:aK} {x x' v:Value} {i:Nat} (h:b9 i x=some v) (hx:ax ρ x x'):∃v',(Instr.extract x' i).run P w=.ok v' w∧ax ρ v v':=by
 unfold b9 at h
 split at h
 ·cases hx with
  | tuple hs hr=>
   obtain ⟨y,hy,hv⟩:=(bF.ti hs hr).get (k:=i) (x:=v) (by simpa using h)
   refine ⟨y,?_,hv⟩
   simp only [getElem?_toList] at hy
   simp [Instr.extract,hy]
 ·cases h
end
theorem bF.zO {ρ:aK} {g g':Operand→Value} (hg:∀x,jy x=true→ax ρ (g x) (g' x)):∀{xs:List Operand},xs.all jy=true→bF ρ (xs.map g) (xs.map g')
 | [],_=>.nil
 | x::xs,h=>by
  simp at h
  exact .cons (hg x h.1) (bF.zO hg (by simpa using h.2))
end
section
theorem aDn (l:List Value) (o:Nat) (v:Value) (vs:List Value) (h:o<l.length):setAt (l.set o v) (o+1) vs=setAt l o (v::vs):=by
 have e:l.set o v=l.take o++v::l.drop (o+1):=by rw [List.set_eq_take_append_cons_drop,if_pos h]
 have hl:(l.take o).length=o:=by simp;omega
 unfold setAt
 have e1:(l.set o v).take (o+1)=l.take o++[v]:=by
  rw [e,List.take_append,hl,List.take_of_length_le (by omega)]
  simp
 have e2:(l.set o v).drop (o+1+vs.length)=l.drop (o+(v::vs).length):=by
  rw [List.drop_set,if_pos (by omega)]
  congr 1
  simp
  omega
 rw [e1,e2]
 simp
theorem aDr (vs:List Value):∀(off i:Nat) (cs:Array Value),off+i+vs.length≤cs.size→
  ((vs.zipIdx i).foldl (fun cs (c,j)=>cs.setIfInBounds (off+j) c) cs).toList=setAt cs.toList (off+i) vs:=by
 induction vs with
 | nil=>intro off i cs h;simp [setAt]
 | cons v vs ih=>
  intro off i cs h
  simp only [List.zipIdx_cons,List.foldl_cons]
  rw [ih off (i+1) _ (by simp at h⊢;omega)]
  rw [Array.toList_setIfInBounds,show off+(i+1)=off+i+1 by omega]
  exact aDn _ _ _ _ (by simp at h⊢;omega)
theorem aDq {ρ:aK} {xs ys:List Value} (h:bF ρ xs ys) {o:Nat} {vs jG:List Value} (hv:bF ρ vs jG):bF ρ (setAt xs o vs) (setAt ys o jG):=by
 unfold setAt
 rw [←hv.length]
 exact ((h.take o).append hv).append (h.drop _)
theorem aDo {xs:List Value} {o:Nat} {vs:List Value} {p:Value→Prop} (h:∀x∈xs,p x) (hv:∀x∈vs,p x):∀x∈setAt xs o vs,p x:=by
 intro x hx
 unfold setAt at hx
 simp only [List.mem_append] at hx
 rcases hx with (hx | hx) | hx
 ·exact h x (List.mem_of_mem_take hx)
 ·exact hv x hx
 ·exact h x (List.mem_of_mem_drop hx)
inductive uL (ρ:aK) (place:Nat→Option (Nat×Nat)):List (Nat×Nat×Value)→List (Nat×Value)→Prop
 | nil:uL ρ place [] []
 | cons {o s i:Nat} {v v':Value} {ps:List (Nat×Nat×Value)} {qs:List (Nat×Value)}:place i=some (o,s)→ax ρ v v'→uL ρ place ps qs→uL ρ place ((o,s,v)::ps) ((i,v')::qs)
theorem PK {ρ:aK} {place:Nat→Option (Nat×Nat)} {ps:List (Nat×Nat×Value)} {qs:List (Nat×Value)} (hp:uL ρ place ps qs):
  ∀{xs cs:List Value} {ys:Array Value},su xs ps=some cs→bF ρ xs ys.toList→(∀x∈xs,gy x=true)→
   ∃ju,Instr.fill place ys qs=some ju∧bF ρ cs ju.toList∧(∀x∈cs,gy x=true)∧cs.length=xs.length:=by
 induction hp with
 | nil=>
  intro xs cs ys h hs h1
  simp [su] at h
  subst h
  exact ⟨ys,by simp [Instr.fill],hs,h1,rfl⟩
 | cons mT hv _ ih=>
  rename_i o s i v v' ps qs _
  intro xs cs ys h hs h1
  simp only [su] at h
  split at h
  ·rename_i hc
   obtain ⟨ht,hl,ho⟩:=hc
   have BD:=hv.cells ht
   have lH:v'.cells.size=s:=by rw [←hl,BD.length];simp [de]
   have jw:o+v'.cells.size≤ys.size:=by have:=hs.length;simp at this;omega
   have DK:=aDr (de v') o 0 ys (by simp [de];omega)
   simp only [Nat.add_zero] at DK
   have wX:v'.cells.zipIdx.foldl (fun cs x=>cs.setIfInBounds (o+x.2) x.1) ys=(setAt ys.toList o (de v')).toArray:=by
    apply ext'
    rw [←DK,←Array.foldl_toList]
    simp [de,Array.toList_zipIdx]
   obtain ⟨ju,hf,hr,h2,hlen⟩:=ih (ys:=(setAt ys.toList o (de v')).toArray) h (by simpa using aDq hs BD) (aDo h1 (hv.Hz ht))
   refine ⟨ju,?_,hr,h2,?_⟩
   ·unfold Instr.fill
    simp only [mT]
    rw [if_neg (by simp [lH];omega)]
    rw [←hf,←wX]
   ·rw [hlen]
    simp [setAt]
    omega
  ·cases h
theorem Cv {P:Program} {t:TypeId} {zs:List Value} (h:zeroOf P t=some zs):
  ∃i z,P.info? t=some i∧i.zero=some z∧zs=de z∧iA z=true∧(∀x∈zs,me x=true∧gy x=true)∧zs.length=i.size:=by
 unfold zeroOf at h
 split at h
 ·rename_i i hi
  split at h
  ·rename_i z hz
   split at h
   ·rename_i hc
    simp at h
    subst h
    simp only [and_eq_true,all_eq_true,AQ,beq_iff_eq] at hc
    exact ⟨i,z,hi,hz,rfl,hc.1.1,fun x hx=>hc.1.2 x hx,hc.2⟩
   ·cases h
  ·cases h
 ·cases h
theorem bF.closed {ρ:aK}:∀{zs:List Value},(∀x∈zs,me x=true)→bF ρ zs zs
 | [],_=>.nil
 | x::zs,h=>.cons (me.rel (h x (by simp))) (bF.closed fun y hy=>h y (by simp [hy]))
section
variable {P : Program} (w : World)
theorem Ae {t:TypeId} {i:TypeInfo} {z:Value} (hi:P.info? t=some i) (hz:i.zero=some z):(zeroValue t).run P w=.ok z w:=by
 simp [zeroValue,typeInfo,hi,hz]
theorem alC:∀(fs:List Field),(∀f∈fs,iI P f.type=true)→
  (fs.mapM (m:=Sem) fun f=>do pure (f.offset,←sizeOf f.type)).run P w=.ok (fs.map fun f=>(f.offset,P.cellsOf f.type)) w
 | [],_=>rfl
 | f::fs,h=>by
  have ih:=alC fs (fun g hg=>h g (by simp [hg]))
  simp only [List.mapM_cons,Sem.run_bind,qU w (h f (by simp)),Result.andThen_ok,Sem.run_pure,ih,List.map_cons]
end
end
section
section
variable {P : Program} (w : World) {ρ : aK} {g g' : Operand → Value}
theorem Jz (hg:∀x,jy x=true→ax ρ (g x) (g' x)) (l:Option Operand) (h:l.toArray.all jy=true):xQ ρ (l.map g) (l.map g'):=by
 cases l with
 | none=>trivial
 | some x=>exact hg x (by simpa using h)
theorem akg (hg:∀x,jy x=true→ax ρ (g x) (g' x)) (place:Nat→Option (Nat×Nat)):∀(qs:List (Nat×Operand)) (ps:List (Nat×Nat×Operand)),
  qs.mapM (m:=Option) (fun (i,x)=>(place i).map fun (o,s)=>(o,s,x))=some ps→(∀q∈qs,jy q.2=true)→
  uL ρ place (ps.map fun (o,s,x)=>(o,s,g x)) (qs.map fun (i,x)=>(i,g' x))
 | [],ps,h,_=>by
  simp at h
  subst h
  exact .nil
 | (i,x)::qs,ps,h,hq=>by
  simp only [List.mapM_cons,Option.bind_eq_bind,bind_eq_some_iff] at h
  obtain ⟨p,hp,ps',Bs,h⟩:=h
  simp at h
  subst h
  simp only [map_eq_some_iff] at hp
  obtain ⟨⟨o,s⟩,mT,rfl⟩:=hp
  exact .cons mT (hg x (hq (i,x) (by simp))) (akg hg place qs ps' Bs fun q hm=>hq q (by simp [hm]))
theorem T7 (hg:∀x,jy x=true→ax ρ (g x) (g' x)) (pl:Nat→Nat×Nat):∀(qs:List (Nat×Operand)),(∀q∈qs,jy q.2=true)→
  uL ρ (fun i=>some (pl i)) ((qs.map fun (i,x)=>((pl i).1,(pl i).2,x)).map fun (o,s,x)=>(o,s,g x)) (qs.map fun (i,x)=>(i,g' x))
 | [],_=>.nil
 | (i,x)::qs,hq=>.cons rfl (hg x (hq (i,x) (by simp))) (T7 hg pl qs fun q hm=>hq q (by simp [hm]))
theorem aCU {t:TypeId} {fs:Array Field} {zs:List Value} {ps:List (Nat×Nat×Value)} {qs:Array (Nat×Value)} {v:Value} (ht:P.underlying t=some (.struct fs)) (hz:zeroOf P t=some zs)
  (hk:∀f∈fs.toList,iI P f.type=true) (hp:uL ρ ((placesOf P fs)[·]?) ps qs.toList) (h:dc zs ps=some v):
  ∃v',(Instr.build t qs).run P w=.ok v' w∧ax ρ v v':=by
 obtain ⟨i,z,hi,qF,rfl,om,fT,hlen⟩:=Cv hz
 simp only [dc,map_eq_some_iff] at h
 obtain ⟨cs,hf,rfl⟩:=h
 obtain ⟨ju,Bm,hr,h1,_⟩:=PK (ys:=z.cells) hp hf (bF.closed fun x hx=>(fT x hx).1) (fun x hx=>(fT x hx).2)
 refine ⟨.agg ju,?_,?_⟩
 ·have hm:=alC (P:=P) w fs.toList hk
  have fU:(fs.mapM (m:=Sem) fun f=>do pure (f.offset,←sizeOf f.type)).run P w=.ok (fs.toList.map fun f=>(f.offset,P.cellsOf f.type)).toArray w:=by
   rw [Array.mapM_eq_mapM_toList]
   simp only [Sem.run_map,hm,Result.andThen_ok]
  have mT:(fun (x:Nat)=>((fs.toList.map fun f=>(f.offset,P.cellsOf f.type)).toArray)[x]?)=((placesOf P fs)[·]?):=by
   funext x
   simp [placesOf]
  simp only [Instr.build,Sem.run_bind,Ae w hi qF,Result.andThen_ok,run_underlying ht,fU]
  rw [mT,Bm]
  simp
 ·have:=ax.AK (ρ:=ρ) hr h1
  simpa using this
theorem aCT {t e:TypeId} {n:Nat} {zs:List Value} {ps:List (Nat×Nat×Value)} {qs:Array (Nat×Value)} {v:Value} (ht:P.underlying t=some (.array n e)) (hz:zeroOf P t=some zs)
  (hk:iI P e=true) (hp:uL ρ (fun i=>some (i*P.cellsOf e,P.cellsOf e)) ps qs.toList) (h:dc zs ps=some v):
  ∃v',(Instr.build t qs).run P w=.ok v' w∧ax ρ v v':=by
 obtain ⟨i,z,hi,qF,rfl,om,fT,hlen⟩:=Cv hz
 simp only [dc,map_eq_some_iff] at h
 obtain ⟨cs,hf,rfl⟩:=h
 obtain ⟨ju,Bm,hr,h1,_⟩:=PK (ys:=z.cells) hp hf (bF.closed fun x hx=>(fT x hx).1) (fun x hx=>(fT x hx).2)
 refine ⟨.agg ju,?_,?_⟩
 ·simp only [Instr.build,Sem.run_bind,Ae w hi qF,Result.andThen_ok,run_underlying ht,qU w hk]
  rw [Bm]
  simp
 ·have:=ax.AK (ρ:=ρ) hr h1
  simpa using this
theorem au2 {fn:Func} (h:fn.name= "internal/bytealg.IndexByteString"):Extern.find fn=some Extern.BytealgIndexByte.indexByte:=by
 unfold Extern.find
 rw [h]
 rfl
theorem auV {f:FuncId} (h:PE P f=true):∃fn,P.funcs[f]?=some fn∧(fn.name== "runtime.NumGoroutine")=false∧fn.body.isNone=true∧Extern.findNext fn=none∧Extern.find fn=some Extern.BytealgIndexByte.indexByte:=by
 unfold PE at h
 split at h
 ·rename_i fn hf
  simp only [and_eq_true,beq_iff_eq] at h
  obtain ⟨⟨h1,h2⟩,h3⟩:=h
  exact ⟨fn,hf,by rw [h2];decide,h1,by simpa using h3,au2 h2⟩
 ·cases h
theorem azn {o:Oper} {po:p7} (hc:iQ P o.op=some po) (aG:o.op.operands.all jy=true) (hH:∀i r,ρ i=some r→r.aX=P.cellsOf r.elem)
  (hg:∀x,jy x=true→ax ρ (g x) (g' x)) {v:Value} (hi:jx po g=some v):∃v',(execOp g' o).run P w=.ok (.value v') w∧ax ρ v v':=by
 cases ho:o.op with
 | move x=>
  rw [ho] at hc aG
  simp [iQ] at hc;subst hc
  simp [Op.operands] at aG
  simp [jx] at hi;subst hi
  exact ⟨g' x,by simp [execOp,ho],hg x aG⟩
 | assign x=>
  rw [ho] at hc aG
  simp [iQ] at hc;subst hc
  simp [Op.operands] at aG
  simp [jx] at hi;subst hi
  exact ⟨g' x,by simp [execOp,ho],hg x aG⟩
 | pick c a b=>
  rw [ho] at hc aG
  simp [iQ] at hc;subst hc
  simp [Op.operands] at aG
  simp only [jx,bP] at hi
  split at hi
  ·rename_i t ht
   have hcb:=hg c aG.1
   rw [ht] at hcb
   simp at hi;subst hi
   refine ⟨if t then g' a else g' b,by simp [execOp,ho,hcb.ye,asBool],?_⟩
   cases t
   ·simpa using hg b aG.2.2
   ·simpa using hg a aG.2.1
  ·cases hi
 | binOp op t x y yt=>
  rw [ho] at hc aG
  simp [Op.operands] at aG
  have hx:=hg x aG.1
  have hy:=hg y aG.2
  simp only [iQ] at hc
  have fin:∀v',(do eqGuard op t x y (g' x) (g' y);binOp op t (g' x) (g' y):Sem Value).run P w=.ok v' w→(execOp g' o).run P w=.ok (.value v') w:=by
   intro v' h
   simp only [execOp,ho]
   simp only [Sem.run_bind] at h⊢
   rw [h]
   rfl
  split at hc
  ·simp at hc;subst hc
   obtain ⟨h1,h2⟩:=als P w (op:=.eql) t x y ‹_› rfl hi hx hy
   exact ⟨v,fin v h1,h2⟩
  ·simp at hc;subst hc
   obtain ⟨h1,h2⟩:=als P w (op:=.neq) t x y ‹_› rfl hi hx hy
   exact ⟨v,fin v h1,h2⟩
  ·simp at hc;subst hc
   obtain ⟨h1,h2⟩:=alu P w (op:=.eql) t x y ‹_› rfl hi hx hy
   exact ⟨v,fin v h1,h2⟩
  ·simp at hc;subst hc
   obtain ⟨h1,h2⟩:=alu P w (op:=.neq) t x y ‹_› rfl hi hx hy
   exact ⟨v,fin v h1,h2⟩
  ·simp at hc;subst hc
   obtain ⟨h1,h2⟩:=aCR P w t x y hi hx hy
   exact ⟨v,fin v h1,h2⟩
 | unOp op t x=>
  rw [ho] at hc aG
  simp [iQ] at hc;subst hc
  simp [Op.operands] at aG
  obtain ⟨h1,h2⟩:=aDi P w hi (hg x aG)
  exact ⟨v,by simp [execOp,ho,h1],h2⟩
 | convert s d x=>
  rw [ho] at hc aG
  simp [Op.operands] at aG
  simp only [iQ] at hc
  split at hc
  ·rename_i k0 k hs hd
   simp at hc;subst hc
   simp only [jx,dh] at hi
   split at hi
   ·rename_i k1 n hx
    have:=hg x aG
    rw [hx] at this
    simp at hi;subst hi
    refine ⟨_,?_,.int _ _⟩
    simp [execOp,ho,this.mw,convert,run_underlying hs,run_underlying hd,Conv.intToInt]
   ·cases hi
  ·rename_i hs hd
   simp at hc;subst hc
   simp only [jx,aem] at hi
   split at hi
   ·rename_i z hx
    have:=hg x aG
    rw [hx] at this
    simp at hi;subst hi
    refine ⟨_,?_,.string _⟩
    simp [execOp,ho,this.we,convert,run_underlying hs,run_underlying hd]
   ·cases hi
  ·cases hc
 | indexAddr t x i=>
  rw [ho] at hc aG
  simp [Op.operands] at aG
  simp only [iQ] at hc
  split at hc
  ·rename_i e ht
   split at hc
   ·rename_i hk
    simp at hc;subst hc
    obtain ⟨v',h1,h2⟩:=aCN w ht hk hi (hg x aG.1) (hg i aG.2)
    exact ⟨v',by simp [execOp,ho,h1],h2⟩
   ·cases hc
  ·rename_i n e ht
   split at hc
   ·rename_i hk
    simp at hc;subst hc
    obtain ⟨v',h1,h2⟩:=aCM w ht hk hi (hg x aG.1) (hg i aG.2)
    exact ⟨v',by simp [execOp,ho,h1],h2⟩
   ·cases hc
  ·cases hc
 | index t x i=>
  rw [ho] at hc aG
  simp [Op.operands] at aG
  simp only [iQ] at hc
  split at hc
  ·rename_i ht
   simp at hc;subst hc
   obtain ⟨h1,h2⟩:=aC2 w ht hi (hg x aG.1) (hg i aG.2)
   exact ⟨v,by simp [execOp,ho,h1],h2⟩
  ·rename_i n e ht
   split at hc
   ·rename_i d hd
    split at hc
    ·rename_i hk
     simp at hc;subst hc
     simp only [and_eq_true] at hk
     obtain ⟨v',h1,h2⟩:=aC1 w ht hd hk.1 hi (hg x aG.1) (hg i aG.2)
     exact ⟨v',by simp [execOp,ho,h1],h2⟩
    ·cases hc
   ·cases hc
  ·cases hc
 | fieldAddr t x f=>
  rw [ho] at hc aG
  simp [Op.operands] at aG
  simp only [iQ] at hc
  split at hc
  ·rename_i fs ht
   split at hc
   ·rename_i fd hf
    split at hc
    ·rename_i hk
     simp at hc;subst hc
     simp only [and_eq_true,bne_iff_ne] at hk
     obtain ⟨v',h1,h2⟩:=aCZ w ht hf hk.1 hk.2 hi (hg x aG)
     exact ⟨v',by simp [execOp,ho,h1],h2⟩
    ·cases hc
   ·cases hc
  ·cases hc
 | field t x f=>
  rw [ho] at hc aG
  simp [Op.operands] at aG
  simp only [iQ] at hc
  split at hc
  ·rename_i fs ht
   split at hc
   ·rename_i fd hf
    split at hc
    ·rename_i d hd
     split at hc
     ·rename_i hk
      simp at hc;subst hc
      simp only [and_eq_true] at hk
      obtain ⟨v',h1,h2⟩:=aC0 w ht hf hd hk.1 hi (hg x aG)
      exact ⟨v',by simp [execOp,ho,h1],h2⟩
     ·cases hc
    ·cases hc
   ·cases hc
  ·cases hc
 | slice t x lo ik mx=>
  rw [ho] at hc aG
  simp only [iQ] at hc
  split at hc
  ·rename_i ht
   simp at hc;subst hc
   simp only [Op.operands,Array.all_append,and_eq_true] at aG
   obtain ⟨⟨⟨h0,h1⟩,h2⟩,_⟩:=aG
   obtain ⟨k1,k2⟩:=aDe w ht hi (hg x (by simpa using h0)) (Jz hg lo h1) (Jz hg ik h2)
   exact ⟨v,by simp [execOp,ho,k1],k2⟩
  ·rename_i e ht
   split at hc
   ·rename_i hk
    simp at hc;subst hc
    simp only [Op.operands,Array.all_append,and_eq_true] at aG
    obtain ⟨⟨⟨h0,h1⟩,h2⟩,_⟩:=aG
    obtain ⟨v',k1,k2⟩:=aDf w hH ht hk hi (hg x (by simpa using h0)) (Jz hg lo h1) (Jz hg ik h2)
    exact ⟨v',by simp [execOp,ho,k1],k2⟩
   ·cases hc
  ·cases hc
 | nilCheck x=>
  rw [ho] at hc aG
  simp [iQ] at hc;subst hc
  simp [Op.operands] at aG
  exact aDc w ho hi (hg x aG)
 | makeFunc fn first captured=>
  rw [ho] at hc aG
  cases fn with
  | func f=>
   simp [iQ] at hc;subst hc
   simp only [Op.operands,Array.all_append,and_eq_true] at aG
   simp [jx] at hi;subst hi
   have h1:=bF.zO hg (xs:=first.toList) (by simpa using aG.1)
   have h2:=bF.zO hg (xs:=captured.toList) (by simpa using aG.2)
   refine ⟨.func (.func f) (first.map g') (captured.map g'),by simp [execOp,ho,Instr.makeFunc],?_⟩
   refine .func f (by simp) (by simp) ?_ ?_
   ·have:=h1.ofList
    simpa using this
   ·have:=h2.ofList
    simpa using this
  | _=>simp [iQ] at hc
 | extract x i=>
  rw [ho] at hc aG
  simp [iQ] at hc;subst hc
  simp [Op.operands] at aG
  obtain ⟨v',h1,h2⟩:=aCY (P:=P) w hi (hg x aG)
  exact ⟨v',by simp [execOp,ho,h1],h2⟩
 | build t parts=>
  rw [ho] at hc aG
  simp only [iQ] at hc
  simp only [Op.operands] at aG
  have hq:∀q∈parts.toList,jy q.2=true:=by
   intro q hm
   rw [Array.all_eq_true'] at aG
   exact aG q.2 (by simp;exact ⟨q.1,by simpa using hm⟩)
  split at hc
  ·rename_i fs zs ht hz
   split at hc
   ·rename_i hk
    split at hc
    ·rename_i ps Bs
     simp at hc;subst hc
     have hp:=akg hg ((placesOf P fs)[·]?) parts.toList ps Bs hq
     have ca:∀f∈fs.toList,iI P f.type=true:=by
      rw [Array.all_eq_true'] at hk
      intro f hf
      exact hk f (by simpa using hf)
     obtain ⟨v',h1,h2⟩:=aCU w ht hz ca (qs:=parts.map fun (i,x)=>(i,g' x)) (by simpa using hp) hi
     exact ⟨v',by simp [execOp,ho,h1],h2⟩
    ·cases hc
   ·cases hc
  ·rename_i n e zs ht hz
   split at hc
   ·rename_i hk
    simp at hc;subst hc
    have hp:=T7 hg (fun i=>(i*P.cellsOf e,P.cellsOf e)) parts.toList hq
    obtain ⟨v',h1,h2⟩:=aCT w ht hz hk (qs:=parts.map fun (i,x)=>(i,g' x)) (by simpa using hp) hi
    exact ⟨v',by simp [execOp,ho,h1],h2⟩
   ·cases hc
  ·cases hc
 | call c=>
  rw [ho] at hc aG
  obtain ⟨callee,args,argTypes⟩:=c
  cases callee with
  | builtin b=>
   simp only [Op.operands,Call.operands,Array.empty_append] at aG
   have sB:=bF.zO hg (xs:=args.toList) (by simpa using aG)
   have fin:∀v',(∀AT,(builtin b argTypes o.type AT (args.map g')).run P w=.ok (.value v') w)→(execOp g' o).run P w=.ok (.value v') w:=by
    intro v' h
    simp [execOp,ho,resolve,invoke,h]
   cases b with
   | len=>
    simp only [iQ] at hc
    split at hc
    ·rename_i x t hx vG
     obtain rfl:args=#[x]:=ext' hx
     obtain rfl:argTypes=#[t]:=ext' vG
     simp at aG
     have hr:=hg x aG
     split at hc
     ·rename_i ht
      simp at hc;subst hc
      simp only [jx,gv] at hi
      split at hi
      ·rename_i s hs
       rw [hs] at hr
       simp at hi;subst hi
       refine ⟨_,fin _ ?_,.int _ _⟩
       intro AT
       simp [builtin,Builtin.len_,run_underlying ht,hr.we,goInt,Fa]
      ·cases hi
     ·rename_i e ht
      simp at hc;subst hc
      simp only [jx,bj] at hi
      split at hi
      ·rename_i a n c hs
       rw [hs] at hr
       simp at hi;subst hi
       refine ⟨_,fin _ ?_,.int _ _⟩
       intro AT
       generalize hy:g' x=y at hr
       cases hr <;> simp [builtin,Builtin.len_,run_underlying ht,hy,goInt]
      ·cases hi
     ·rename_i n e ht
      simp at hc;subst hc
      simp [jx] at hi;subst hi
      refine ⟨_,fin _ ?_,.int _ _⟩
      intro AT
      simp [builtin,Builtin.len_,run_underlying ht,goInt]
     ·cases hc
    ·cases hc
   | min=>
    simp [iQ] at hc;subst hc
    simp only [jx,xr] at hi
    split at hi
    ·rename_i k n rest hl
     rw [hl] at sB
     generalize hy:args.toList.map g'=ys at sB
     cases sB with
     | cons h1 h2=>
      rename_i y0 ys0
      have e:=h1.mw
      subst e
      obtain ⟨k1,k2⟩:=UF (P:=P) w hi h2
      refine ⟨v,fin v ?_,k2⟩
      intro AT
      simp only [builtin,Sem.run_bind,Builtin.min_,Array.toList_map,hy]
      simp at k1
      rw [k1]
      rfl
    ·cases hi
   | max=>
    simp [iQ] at hc;subst hc
    simp only [jx,xr] at hi
    split at hi
    ·rename_i k n rest hl
     rw [hl] at sB
     generalize hy:args.toList.map g'=ys at sB
     cases sB with
     | cons h1 h2=>
      rename_i y0 ys0
      have e:=h1.mw
      subst e
      obtain ⟨k1,k2⟩:=UF (P:=P) w hi h2
      refine ⟨v,fin v ?_,k2⟩
      intro AT
      simp only [builtin,Sem.run_bind,Builtin.max_,Array.toList_map,hy]
      simp at k1
      rw [k1]
      rfl
    ·cases hi
   | _=>simp [iQ] at hc
  | value y=>
   cases y with
   | func f=>
    simp only [iQ] at hc
    split at hc
    ·rename_i x c hx
     split at hc
     ·rename_i hf
      simp at hc;subst hc
      obtain rfl:args=#[x,c]:=ext' hx
      simp [Op.operands,Call.operands] at aG
      simp only [jx] at hi
      split at hi
      ·rename_i f' a b hgf
       split at hi
       ·rename_i gX
        obtain ⟨rfl,ha,hb⟩:=gX
        obtain rfl:=Array.eq_empty_of_size_eq_zero ha
        obtain rfl:=Array.eq_empty_of_size_eq_zero hb
        have h0:=hg (.func f') aG.1
        rw [hgf] at h0
        generalize hy:g' (.func f')=y at h0
        cases h0 with
        | func _ s1 s2 _ _=>
         rename_i fx Ao
         obtain rfl:=Array.eq_empty_of_size_eq_zero s1.symm
         obtain rfl:=Array.eq_empty_of_size_eq_zero s2.symm
         simp only [Eg] at hi
         split at hi
         ·rename_i s n hs hn
          injection hi with hi
          subst hi
          have h1:=hg x aG.2.1
          have h2:=hg c aG.2.2
          rw [hs] at h1
          rw [hn] at h2
          have e1:=h1.we
          have e2:=h2.mw
          refine ⟨_,?_,.int _ _⟩
          obtain ⟨fn,q1,q2,q3,q4,q5⟩:=auV hf
          have:=run_callFunc_extern (P:=P) q1 q2 q3 q4 q5 #[.string s,.int .u8 n] w
          simp [execOp,ho,resolve,Deferred.ofValue,invoke,hy,e1,e2]
          rw [this,Lib.run_indexByteString]
          rfl
         ·cases hi
       ·cases hi
      ·cases hi
     ·cases hc
    ·cases hc
   | _=>simp [iQ] at hc
  | _=>simp [iQ] at hc
 | _=>rw [ho] at hc;simp [iQ] at hc
end
end
section
theorem fX.mono {ρ av:aK} (h:ρ.le av) {c:Array Value} {sh:Nat} {xs:List Value} (hc:fX ρ c sh xs):fX av c sh xs:=by
 intro j x hj
 obtain ⟨h1,y,hy,hr⟩:=hc j x hj
 exact ⟨h1,y,hy,hr.mono h⟩
theorem kY.mono {ρ av:aK} {w w':World} {r:RI} {o:aq} (hle:ρ.le av) (hw:w'.heap[r.bw]?=w.heap[r.bw]?) (h:kY ρ w r o):kY av w' r o:=by
 cases o with
 | ro e xs=>
  obtain ⟨h1,c,t,fr,h2,h3,h4⟩:=h
  exact ⟨h1,c,t,fr,by rw [hw];exact h2,h3,h4.mono hle⟩
 | arr e xs=>
  obtain ⟨h1,h0,c,h2,h3,h4⟩:=h
  exact ⟨h1,h0,c,by rw [hw];exact h2,h3,h4.mono hle⟩
 | smap es=>
  obtain ⟨aJ,clock,h1,h2,h3⟩:=h
  refine ⟨aJ,clock,by rw [hw];exact h1,h2,?_⟩
  intro j k v hj
  obtain ⟨en,he,hk,hv⟩:=h3 j k v hj
  exact ⟨en,he,hk,hv.mono hle⟩
 | kH kd es=>
  obtain ⟨aJ,clock,h1,h2,h3⟩:=h
  refine ⟨aJ,clock,by rw [hw];exact h1,h2,?_⟩
  intro j k v hj
  obtain ⟨en,he,hk,hv⟩:=h3 j k v hj
  exact ⟨en,he,hk,hv.mono hle⟩
 | cR g c es=>
  obtain ⟨h0,aJ,h1,h2,h3⟩:=h
  refine ⟨h0,aJ,by rw [hw];exact h1,h2,?_⟩
  intro j b k v hj
  obtain ⟨hg,en,he,hk,hb,hv⟩:=h3 j b k v hj
  exact ⟨hg,en,he,hk,hb,hv.mono hle⟩
 | iter m s n l=>
  obtain ⟨h0,rm,h1,h2⟩:=h
  exact ⟨h0,rm,hle _ _ h1,by rw [hw];exact h2⟩
 | loop c ls vs=>
  obtain ⟨rec,h1,h2,h3,h4,h5,h6,h7,h8⟩:=h
  exact ⟨rec,by rw [hw];exact h1,h2,h3,h4,h5,h6,h7,fun t=>(h8 t).mono hle⟩
 | dead=>trivial
def aK.add (ρ:aK) (i:Nat) (r:RI):aK:=fun j=>if j=i then some r else ρ j
theorem aK.vR {ρ:aK} {i:Nat} {r:RI} (h:ρ i=none):ρ.le (ρ.add i r):=by
 intro j s hj
 unfold aK.add
 split
 ·rename_i e;subst e;rw [h] at hj;cases hj
 ·exact hj
theorem aZ.none {P:Program} {ρ:aK} {h:ae} {w:World} (H:aZ P ρ h w):ρ h.length=none:=by
 cases hr:ρ h.length with
 | none=>rfl
 | some r=>exact absurd (H.lt hr) (Nat.lt_irrefl _)
theorem BV {P:Program} {ρ:aK} {h:ae} {w:World} (H:aZ P ρ h w) {i:Nat} {r:RI} (hi:ρ i=some r) (hl:eX h i):r.bw<w.heap.size:=by
 obtain ⟨o,ho,hr⟩:=H.obj i r hi
 obtain ⟨o',dO,bp⟩:=hl
 rw [ho] at dO
 cases dO
 have key:∀{x:Obj},w.heap[r.bw]?=some x→r.bw<w.heap.size:=fun h=>(Array.getElem?_eq_some_iff.1 h).1
 cases o with
 | ro e xs=>obtain ⟨_,c,_,fr,h2,_⟩:=hr;exact key h2
 | arr e xs=>obtain ⟨_,_,c,h2,_⟩:=hr;exact key h2
 | smap es=>obtain ⟨aJ,clock,h1,_⟩:=hr;exact key h1
 | kH kd es=>obtain ⟨aJ,clock,h1,_⟩:=hr;exact key h1
 | cR g c es=>obtain ⟨_,aJ,h1,_⟩:=hr;exact key h1
 | iter m s n l=>obtain ⟨_,rm,_,h1⟩:=hr;exact key h1
 | loop c ls vs=>obtain ⟨rec,h1,_⟩:=hr;exact key h1
 | dead=>exact absurd rfl bp
structure jM (w:World) (b:Obj) (w':World):Prop where
 heap:w'.heap=w.heap.push b
 os:w'.os=w.os
 tape:w'.tape=w.tape
 output:w'.output=w.output
theorem jM.alloc (w:World) (b:Obj):jM w b (w.alloc b):=⟨rfl,rfl,rfl,rfl⟩
theorem jM.drew (w:World) (b:Obj):jM w b (w.drew.alloc b):=⟨rfl,rfl,rfl,rfl⟩
theorem jM.old {w w':World} {b:Obj} (n:jM w b w') {k:Nat} (h:k<w.heap.size):w'.heap[k]?=w.heap[k]?:=by
 rw [n.heap,Array.getElem?_push,if_neg (by omega)]
theorem jM.new {w w':World} {b:Obj} (n:jM w b w'):w'.heap[w.heap.size]?=some b:=by
 rw [n.heap,Array.getElem?_push,if_pos rfl]
theorem jM.size {w w':World} {b:Obj} (n:jM w b w'):w'.heap.size=w.heap.size+1:=by
 rw [n.heap];simp
theorem aZ.new {P:Program} {ρ:aK} {h h₀:ae} {w w':World} {b:Obj} {r:RI} {o:aq} (H:aZ P ρ h w) (nb:jM w b w') (hb:r.bw=w.heap.size) (he:r.aX=P.cellsOf r.elem)
  (hk:h₀.length=h.length) (hd:∀i:Nat,h₀[i]?=h[i]?∨h₀[i]?=some aq.dead)
  (ho:kY (ρ.add h.length r) w' r o):aZ P (ρ.add h.length r) (h₀++[o]) w'∧Tr ρ h w (ρ.add h.length r) (h₀++[o]) w':=by
 have hle:=aK.vR (r:=r) H.none
 have jj:∀i,i<h.length→cB (h₀++[o]) i→cB h i:=by
  intro i hi hm
  unfold cB at hm⊢
  rw [getElem?_append_left (by omega)] at hm
  rcases hd i with e | e <;> rw [e] at hm
  ·exact hm
  ·rcases hm with ⟨_,_,hm⟩ | ⟨_,hm⟩ | ⟨_,_,_,hm⟩ | ⟨_,_,hm⟩ | ⟨_,_,_,hm⟩ | ⟨_,_,_,_,hm⟩ <;> cases hm
 have yQ:∀i,i<h.length→eX (h₀++[o]) i→eX h i:=by
  intro i hi hm
  unfold eX at hm⊢
  rw [getElem?_append_left (by omega)] at hm
  rcases hd i with e | e <;> rw [e] at hm
  ·exact hm
  ·obtain ⟨o',h1,h2⟩:=hm;cases h1;exact absurd rfl h2
 have bw:∀i s,ρ i=some s→eX (h₀++[o]) i→s.bw<w.heap.size:=fun i s hi hl=>BV H hi (yQ i (H.lt hi) hl)
 constructor
 ·constructor
  ·intro i s hi
   unfold aK.add at hi
   split at hi
   ·rename_i e
    subst e
    cases hi
    refine ⟨o,?_,ho⟩
    rw [←hk]
    simp
   ·obtain ⟨o',dO,hr⟩:=H.obj i s hi
    have aD:=H.lt hi
    rw [getElem?_append_left (by omega)]
    rcases hd i with e | e
    ·refine ⟨o',by rw [e];exact dO,?_⟩
     by_cases w5:o'=.dead
     ·subst w5;trivial
     ·exact hr.mono hle (nb.old (BV H hi ⟨o',dO,w5⟩))
    ·exact ⟨.dead,e,trivial⟩
  ·intro i j s t hi hj bD hm hl
   unfold aK.add at hi hj
   split at hi <;> split at hj
   ·omega
   ·rename_i e1 e2
    cases hi
    have:=bw j t hj hl
    omega
   ·rename_i e1 e2
    cases hj
    have:=bw i s hi hm.live
    omega
   ·exact H.inj i j s t hi hj bD (jj i (H.lt hi) hm) (yQ j (H.lt hj) hl)
  ·intro i s hi
   unfold aK.add at hi
   split at hi
   ·cases hi;exact he
   ·exact H.aX i s hi
 ·exact {
   ext:=hle
   len:=by simp;omega
   jC:=fun i s hi=>H.lt hi
   kinds:=jj
   fresh:=by
    intro i s hi hn
    unfold aK.add at hi
    split at hi
    ·rename_i e;cases hi;exact ⟨by omega,.inl (by omega)⟩
    ·rw [hn] at hi;cases hi
   iL:=by rw [nb.size];omega
   hY:=fun k ca _=>nb.old ca
   os:=nb.os
   tape:=nb.tape
   output:=nb.output }
structure mK (w:World) (k:Nat) (b:Obj) (w':World):Prop where
 here:w'.heap[k]?=some b
 other:∀j,j≠k→w'.heap[j]?=w.heap[j]?
 size:w'.heap.size=w.heap.size
 os:w'.os=w.os
 tape:w'.tape=w.tape
 output:w'.output=w.output
theorem mK.row {w:World} {g:Nat} {c:Array Value} {e:TypeId} {fr:Nat×Nat} (hg:w.heap[g]?=some (.cells c e fr)) (c':Array Value):mK w g (.cells c' e fr) (w.setRow g c') where
 here:=by simp [World.setRow,Array.getElem?_modify,hg]
 other:=by intro j hj;simp [World.setRow,Array.getElem?_modify,Ne.symm hj]
 size:=by simp [World.setRow]
 os:=rfl
 tape:=rfl
 output:=rfl
theorem aZ.set {P:Program} {ρ:aK} {h:ae} {w w':World} {b:Obj} {i:Nat} {r:RI} {o:aq} (H:aZ P ρ h w) (hi:ρ i=some r) (hm:cB h i) (sb:mK w r.bw b w')
  (ho:kY ρ w' r o):aZ P ρ (h.set i o) w'∧Tr ρ h w ρ (h.set i o) w':=by
 have aD:=H.lt hi
 have jj:∀j,cB (h.set i o) j→cB h j:=by
  intro j hj
  by_cases e:j=i
  ·subst e;exact hm
  ·unfold cB at hj⊢
   rw [getElem?_set_ne (Ne.symm e)] at hj
   exact hj
 have yQ:∀j,eX (h.set i o) j→eX h j:=by
  intro j hj
  by_cases e:j=i
  ·subst e;exact hm.live
  ·unfold eX at hj⊢
   rw [getElem?_set_ne (Ne.symm e)] at hj
   exact hj
 constructor
 ·constructor
  ·intro j s hj
   by_cases e:j=i
   ·subst e
    rw [hi] at hj
    cases hj
    exact ⟨o,by rw [List.getElem?_set_self aD],ho⟩
   ·obtain ⟨o',dO,hr⟩:=H.obj j s hj
    refine ⟨o',by rw [getElem?_set_ne (Ne.symm e)];exact dO,?_⟩
    by_cases w5:o'=.dead
    ·subst w5;trivial
    ·refine hr.mono (.refl _) (sb.other _ ?_)
     intro hb
     exact e (H.inj i j r s hi hj hb.symm hm ⟨o',dO,w5⟩).symm
  ·intro j k s t hj hk bD fU hl
   exact H.inj j k s t hj hk bD (jj j fU) (yQ k hl)
  ·exact H.aX
 ·exact {
   ext:=.refl _
   len:=by simp
   jC:=fun j s hj=>H.lt hj
   kinds:=fun j _ hj=>jj j hj
   fresh:=fun j s h1 h2=>by rw [h1] at h2;cases h2
   iL:=by rw [sb.size];exact le_refl _
   hY:=fun k _ dG=>sb.other k fun e=>dG i r hi e.symm hm
   os:=sb.os
   tape:=sb.tape
   output:=sb.output }
theorem aZ.move {P:Program} {ρ:aK} {h:ae} {w w':World} {b:Obj} {i:Nat} {r:RI} {o:aq} (H:aZ P ρ h w) (hi:ρ i=some r) (hm:cB h i) (sb:mK w r.bw b w')
  (ho:kY (ρ.add h.length r) w' r o):aZ P (ρ.add h.length r) (h.set i .dead++[o]) w'∧Tr ρ h w (ρ.add h.length r) (h.set i .dead++[o]) w':=by
 have aD:=H.lt hi
 have hle:=aK.vR (r:=r) H.none
 have get:∀j,j<h.length→j≠i→(h.set i .dead++[o])[j]?=h[j]?:=by
  intro j hj e
  rw [getElem?_append_left (by simpa using hj),getElem?_set_ne (Ne.symm e)]
 have P4:(h.set i .dead++[o])[i]?=some .dead:=by
  rw [getElem?_append_left (by simpa using aD),List.getElem?_set_self aD]
 have jj:∀j,j<h.length→cB (h.set i .dead++[o]) j→cB h j∧j≠i:=by
  intro j hj fU
  have bp:j≠i:=by
   intro e
   subst e
   unfold cB at fU
   rw [P4] at fU
   rcases fU with ⟨_,_,h1⟩ | ⟨_,h1⟩ | ⟨_,_,_,h1⟩ | ⟨_,_,h1⟩ | ⟨_,_,_,h1⟩ | ⟨_,_,_,_,h1⟩ <;> cases h1
  refine ⟨?_,bp⟩
  unfold cB at fU⊢
  rw [get j hj bp] at fU
  exact fU
 have yQ:∀j,j<h.length→eX (h.set i .dead++[o]) j→eX h j∧j≠i:=by
  intro j hj fU
  have bp:j≠i:=by
   intro e
   subst e
   obtain ⟨o',h1,h2⟩:=fU
   rw [P4] at h1
   cases h1
   exact h2 rfl
  refine ⟨?_,bp⟩
  unfold eX at fU⊢
  rw [get j hj bp] at fU
  exact fU
 constructor
 ·constructor
  ·intro j s hj
   unfold aK.add at hj
   split at hj
   ·rename_i e
    subst e
    cases hj
    exact ⟨o,by rw [List.getElem?_append_right (by simp)];simp,ho⟩
   ·by_cases e:j=i
    ·subst e
     exact ⟨.dead,P4,trivial⟩
    ·obtain ⟨o',dO,hr⟩:=H.obj j s hj
     refine ⟨o',by rw [get j (H.lt hj) e];exact dO,?_⟩
     by_cases w5:o'=.dead
     ·subst w5;trivial
     ·refine hr.mono hle (sb.other _ ?_)
      intro hb
      exact e (H.inj i j r s hi hj hb.symm hm ⟨o',dO,w5⟩).symm
  ·intro j k s t hj hk bD fU hl
   unfold aK.add at hj hk
   split at hj <;> split at hk
   ·omega
   ·cases hj
    obtain ⟨h1,h2⟩:=yQ k (H.lt hk) hl
    exact absurd (H.inj i k r t hi hk bD hm h1).symm h2
   ·cases hk
    obtain ⟨h1,h2⟩:=jj j (H.lt hj) fU
    exact absurd (H.inj j i s r hj hi bD h1 hm.live) h2
   ·exact H.inj j k s t hj hk bD (jj j (H.lt hj) fU).1 (yQ k (H.lt hk) hl).1
  ·intro j s hj
   unfold aK.add at hj
   split at hj
   ·cases hj;exact H.aX i r hi
   ·exact H.aX j s hj
 ·exact {
   ext:=hle
   len:=by simp
   jC:=fun j s hj=>H.lt hj
   kinds:=fun j hj fU=>(jj j hj fU).1
   fresh:=by
    intro j s hj hn
    unfold aK.add at hj
    split at hj
    ·rename_i e;cases hj;exact ⟨by omega,.inr ⟨i,r,hi,rfl,hm⟩⟩
    ·rw [hn] at hj;cases hj
   iL:=by rw [sb.size];exact le_refl _
   hY:=fun k _ dG=>sb.other k fun e=>dG i r hi e.symm hm
   os:=sb.os
   tape:=sb.tape
   output:=sb.output }
end
section
inductive pe where
 | load (agg:Bool) (n:Nat) (a:Operand)
 | yb (x:Operand)
 | lookup (ok:Bool) (zero:Value) (m k:Operand)
 | Jj (kd:IntKind) (ok:Bool) (zero:Value) (m k:Operand)
 | Ji (g:fR) (ok:Bool) (zero:Value) (m k:Operand)
 | entry (it:Operand)
 | obj (x:Operand)
inductive mH where
 | alloc (e:TypeId) (zs:List Value)
 | nF (e:TypeId) (n:Nat) (zs:List Value) (parts:List (Nat×Nat×Operand))
 | make (e:TypeId) (bytes:Nat) (zs:List Value) (l c:Operand)
 | o9 (g:fR)
inductive pb where
 | fl (a:mH)
 | store (n:Nat) (a v:Operand)
 | box (e:TypeId) (x:Operand)
 | alloc (e:TypeId) (zs:List Value)
 | nF (e:TypeId) (n:Nat) (zs:List Value) (parts:List (Nat×Nat×Operand))
 | make (e:TypeId) (bytes:Nat) (zs:List Value) (l c:Operand)
 | app (e:TypeId) (aX bytes:Nat) (s x:Operand)
 | mkMap
 | Jo (kd:IntKind)
 | o9 (g:fR)
 | Sl (g:fR) (m k v:Operand)
 | Dj (g:fR) (m k:Operand)
 | Us (x:Operand)
 | next (it:Operand)
 | die
 | Sm (kd:IntKind) (m k v:Operand)
 | Sk (m k v:Operand)
 | copy (d s:Operand)
def aR (h:ae) (i:Nat):Option (List Value):=
 match h[i]? with
 | some (.ro _ xs)=>some xs
 | some (.arr _ xs)=>some xs
 | _=>none
def af (agg:Bool) (n:Nat) (h:ae) (a:Value):Option Value:=
 match a with
 | .pointer (some ⟨i,o,none⟩)=>(aR h i).bind fun xs=>cf agg o n xs
 | _=>none
def CU:Value→Option UInt8
 | .int .u8 n=>some (UInt8.ofNat n.toNat)
 | _=>none
def kL (h:ae) (aX:Nat) (x:Value):Option (List Value):=
 match x with
 | .slice none 0 0=>some []
 | .slice (some ⟨i,o,some _⟩) n _=>
  if n=0 then some [] else (aR h i).bind fun xs=>if o+n*aX≤xs.length then some ((xs.drop o).take (n*aX)) else none
 | _=>none
def rL (h:ae) (x:Value):Option Value:=(kL h 1 x).bind fun cs=>(cs.mapM CU).map S
def uT (k:ByteArray):List (ByteArray×Value)→Option Value
 | []=>none
 | (k',v)::es=>if k=k' then some v else uT k es
def tg (k:ByteArray) (v:Value):List (ByteArray×Value)→List (ByteArray×Value)
 | []=>[(k,v)]
 | (k',v')::es=>if k=k' then (k',v)::es else (k',v')::tg k v es
def oM (k:Int):List (Int×Value)→Option Value
 | []=>none
 | (k',v)::es=>if k=k' then some v else oM k es
def tf (k:Int) (v:Value):List (Int×Value)→List (Int×Value)
 | []=>[(k,v)]
 | (k',v')::es=>if k=k' then (k',v)::es else (k',v')::tf k v es
def I3 (kd:IntKind) (ok:Bool) (zero:Value) (h:ae) (m k:Value):Option Value:=
 match m,k with
 | .map (some i),.int BM k=>
  match h[i]? with
  | some (.kH nD es)=>if BM=kd∧nD=kd then some (if ok then .tuple #[(oM k es).getD zero,.bool (oM k es).isSome] else (oM k es).getD zero) else none
  | _=>none
 | _,_=>none
def xv:Value→Value→Bool
 | .int k a,.int k' b=>decide (k=k')&&decide (a=b)
 | _,_=>false
def tV:List Value→List Value→Bool
 | [],[]=>true
 | a::uM,b::bs=>xv a b&&tV uM bs
 | _,_=>false
def mN:Value→Value→Bool
 | .string a,.string b=>decide (bytes a=bytes b)
 | .agg uM,.agg bs=>tV uM.toList bs.toList
 | a,b=>xv a b
def lQ (k:Value):List (Nat×Value×Value)→Option Nat
 | []=>none
 | (_,k',_)::es=>if mN k k'=true then some 0 else (lQ k es).map (·+1)
def rl (k:Value) (es:List (Nat×Value×Value)):Option Value:=(lQ k es).bind fun j=>(es[j]?).map fun e=>e.2.2
def lR (c:Nat) (k v:Value) (es:List (Nat×Value×Value)):List (Nat×Value×Value):=
 match lQ k es with
 | some j=>es.modify j fun e=>(e.1,k,v)
 | none=>es++[(c,k,v)]
def oK (c:Nat) (k:Value) (es:List (Nat×Value×Value)):Nat:=match lQ k es with | some _=>c | none=>c+1
def rj (k:Value) (es:List (Nat×Value×Value)):List (Nat×Value×Value):=
 match lQ k es with
 | some j=>es.eraseIdx j
 | none=>es
def zv (g:fR) (ok:Bool) (zero:Value) (h:ae) (m k:Value):Option Value:=
 match m with
 | .map (some i)=>
  match h[i]? with
  | some (.cR g' _ es)=>if g'=g∧fc g k=true then some (if ok then .tuple #[(rl k es).getD zero,.bool (rl k es).isSome] else (rl k es).getD zero) else none
  | _=>none
 | _=>none
def BF (g:fR) (h:ae) (m k v:Value):Option ae:=
 match m with
 | .map (some i)=>
  match h[i]? with
  | some (.cR g' c es)=>if g'=g∧fc g k=true∧iA v=true then some (h.set i (.cR g (oK c k es) (lR c k v es))) else none
  | _=>none
 | _=>none
def Ef (g:fR) (h:ae) (m k:Value):Option ae:=
 match m with
 | .map (some i)=>
  match h[i]? with
  | some (.cR g' c es)=>if g'=g∧fc g k=true then some (h.set i (.cR g c (rj k es))) else none
  | _=>none
 | _=>none
def BG (h:ae) (x:Value):Option (Value×ae):=
 match x with
 | .map (some i)=>
  match h[i]? with
  | some (.cR _ c _)=>some (.pointer (some ⟨h.length,0,none⟩),h++[.iter i c [] c])
  | _=>none
 | _=>none
def zp (h:ae) (it:Value):Option Value:=
 match it with
 | .pointer (some ⟨j,0,none⟩)=>
  match h[j]? with
  | some (.iter i _ seen last)=>
   match h[i]?,seen.getLast? with
   | some (.cR _ c es),some b=>if c=last then (es.find? fun e=>e.1==b).map fun e=>.tuple #[e.2.1,e.2.2] else none
   | _,_=>none
  | _=>none
 | _=>none
def sY:Value→Bool
 | .bool _ | .int .. | .string _ | .nilFunc | .nilIface=>true
 | .pointer none | .map none=>true
 | .slice none 0 0=>true
 | _=>false
def Dx:fR→Value
 | .int k=>.int k 0
 | .str=>.bool true
 | .ints n k=>.agg #[.int k n]
def py:aq→Option Value
 | .arr e xs=>if xs.all sY then some (.agg (.int .i64 e::xs).toArray) else none
 | .cR g c es=>if c=0∧es.isEmpty=true then some (.tuple #[Dx g]) else none
 | _=>none
def zw:Value→Option Nat
 | .pointer (some ⟨i,_,none⟩)=>some i
 | .slice (some ⟨i,_,_⟩) _ _=>some i
 | .map (some i)=>some i
 | _=>none
def dZ (h:ae) (x:Value):Option Value:=(zw x).bind fun i=>(h[i]?).bind py
def zR (h:ae) (it:Value):Option (List (Value×ae)):=
 match it with
 | .pointer (some ⟨j,0,none⟩)=>
  match h[j]? with
  | some (.iter i kl seen last)=>
   match h[i]? with
   | some (.cR _ c es)=>
    if (!seen.isEmpty&& !es.isEmpty&&es.all fun e=>decide (last≤e.1))=true then none else
    let left:=es.filter fun e=> !seen.contains e.1
    let old:=left.filter fun e=>decide (e.1<kl)
    let new:=left.filter fun e=>decide (kl≤e.1)
    some ((if old.isEmpty=true then [(.tuple #[.bool false],h)] else [])++(old++new).map fun e=>(.tuple #[.bool true,e.2.1,e.2.2],h.set j (.iter i kl (seen++[e.1]) c)))
   | _=>none
  | _=>none
 | _=>none
def I2 (ok:Bool) (zero:Value) (h:ae) (m k:Value):Option Value:=
 match m,k with
 | .map (some i),.string k=>
  match h[i]? with
  | some (.smap es)=>some (if ok then .tuple #[(uT k es).getD zero,.bool (uT k es).isSome] else (uT k es).getD zero)
  | _=>none
 | _,_=>none
def fF (o:pe) (g:Operand→Value) (h:ae):Option Value:=
 match o with
 | .load agg n a=>af agg n h (g a)
 | .yb x=>rL h (g x)
 | .lookup ok zero m k=>I2 ok zero h (g m) (g k)
 | .Jj kd ok zero m k=>I3 kd ok zero h (g m) (g k)
 | .Ji kd ok zero m k=>zv kd ok zero h (g m) (g k)
 | .entry it=>zp h (g it)
 | .obj x=>dZ h (g x)
def vK (n:Nat) (h:ae) (a v:Value):Option ae:=
 match a with
 | .pointer (some ⟨i,o,none⟩)=>
  match h[i]? with
  | some (.arr e xs)=>if iA v∧(de v).length=n∧o+n≤xs.length then some (h.set i (.arr e (setAt xs o (de v)))) else none
  | _=>none
 | _=>none
def BT (h:ae):Value:=.pointer (some ⟨h.length,0,none⟩)
def sl (e:TypeId) (i o n:Nat):Value:=.slice (some ⟨i,o,some e⟩) n n
def bm (e:TypeId) (h:ae) (x:Value):Option (Value×ae):=if iA x then some (BT h,h++[.arr e (de x)]) else none
def iO (zs:List Value) (n:Nat):List Value:=(List.replicate n zs).flatten
def dH (e:TypeId) (n:Nat) (zs:List Value) (h:ae) (ps:List (Nat×Nat×Value)):Option (Value×ae):=
 (su (iO zs n) ps).map fun cs=>(sl e h.length 0 n,h++[.arr e cs])
def mV (e:TypeId) (bytes:Nat) (zs:List Value) (h:ae) (l c:Value):Option (Value×ae):=
 match l,c with
 | .int _ l,.int _ c=>if 0≤l∧l≤c∧(bytes:Int)*c≤281474976710656∧c≤9223372036854775807 then some (sl e h.length 0 l.toNat,h++[.arr e (iO zs l.toNat)]) else none
 | _,_=>none
def pP:Value→Option Nat
 | .slice none 0 0=>some 0
 | .slice (some _) n _=>some n
 | _=>none
def dT (e:TypeId) (aX bytes:Nat) (h:ae) (s x:Value):Option (Value×ae):=
 match kL h aX x,pP x with
 | some news,some m=>
  match s with
  | .slice none 0 0=>
   if m=0 then some (s,h) else
   if m*bytes≤140737488355328∧m≤maxLen then some (sl e h.length 0 m,h++[.arr e news]) else none
  | .slice (some ⟨i,0,some e'⟩) n _=>
   match h[i]? with
   | some (.arr e'' xs)=>
    if e'=e∧e''=e∧xs.length=n*aX∧(n+m)*bytes≤140737488355328∧n+m≤maxLen then
     if m=0 then some (s,h) else some (sl e h.length 0 (n+m),h.set i .dead++[.arr e (xs++news)])
    else none
   | _=>none
  | _=>none
 | _,_=>none
def Rx (h:ae) (m k v:Value):Option ae:=
 match m,k with
 | .map (some i),.string k=>
  match h[i]? with
  | some (.smap es)=>some (h.set i (.smap (tg k v es)))
  | _=>none
 | _,_=>none
def Ry (kd:IntKind) (h:ae) (m k v:Value):Option ae:=
 match m,k with
 | .map (some i),.int BM k=>
  match h[i]? with
  | some (.kH nD es)=>if BM=kd∧nD=kd then some (h.set i (.kH kd (tf k v es))) else none
  | _=>none
 | _,_=>none
def BU (kd:fR) (h:ae) (m k v:Value):Option (Value×ae):=(BF kd h m k v).map fun h'=>(undef,h')
def Sy (kd:fR) (h:ae) (m k:Value):Option (Value×ae):=(Ef kd h m k).map fun h'=>(.tuple #[],h')
def BE (kd:fR) (h:ae):Option (Value×ae):=some (.map (some h.length),h++[.cR kd 0 []])
def aE (n:Nat) (h:ae) (a v:Value):Option (Value×ae):=(vK n h a v).map fun h'=>(undef,h')
def aV (e:TypeId) (zs:List Value) (h:ae):Option (Value×ae):=some (BT h,h++[.arr e zs])
def Ru (h:ae) (d s:Value):Option (Value×ae):=
 match pP d,pP s,kL h 1 s with
 | some n,some m,some cs=>
  if Nat.min m n=0 then some (.int .i64 0,h) else
  match d with
  | .slice (some ⟨i,o,some _⟩) _ _=>
   match h[i]? with
   | some (.arr e xs)=>if o+Nat.min m n≤xs.length then some (.int .i64 (Nat.min m n:Nat),h.set i (.arr e (setAt xs o (cs.take (Nat.min m n))))) else none
   | _=>none
  | _=>none
 | _,_,_=>none
def fZ (o:pb) (g:Operand→Value) (h:ae):Option (Value×ae):=
 match o with
 | .fl a=>match a with
  | .alloc e zs=>some (BT h,h++[.arr e zs])
  | .nF e n zs ps=>dH e n zs h (ps.map fun (o,s,x)=>(o,s,g x))
  | .make e bytes zs l c=>mV e bytes zs h (g l) (g c)
  | .o9 kd=>some (.map (some h.length),h++[.cR kd 0 []])
 | .store n a v=>(vK n h (g a) (g v)).map fun h'=>(undef,h')
 | .box e x=>bm e h (g x)
 | .alloc e zs=>some (BT h,h++[.arr e zs])
 | .nF e n zs ps=>dH e n zs h (ps.map fun (o,s,x)=>(o,s,g x))
 | .make e bytes zs l c=>mV e bytes zs h (g l) (g c)
 | .app e aX bytes s x=>dT e aX bytes h (g s) (g x)
 | .mkMap=>some (.map (some h.length),h++[.smap []])
 | .Sk m k v=>(Rx h (g m) (g k) (g v)).map fun h'=>(undef,h')
 | .Jo kd=>some (.map (some h.length),h++[.kH kd []])
 | .die=>none
 | .next _=>none
 | .o9 kd=>some (.map (some h.length),h++[.cR kd 0 []])
 | .Sl kd m k v=>(BF kd h (g m) (g k) (g v)).map fun h'=>(undef,h')
 | .Dj kd m k=>(Ef kd h (g m) (g k)).map fun h'=>(.tuple #[],h')
 | .Us x=>BG h (g x)
 | .Sm kd m k v=>(Ry kd h (g m) (g k) (g v)).map fun h'=>(undef,h')
 | .copy d s=>Ru h (g d) (g s)
def mH.Fh:mH→pb
 | .alloc e zs=>.alloc e zs
 | .nF e n zs ps=>.nF e n zs ps
 | .make e b zs l c=>.make e b zs l c
 | .o9 g=>.o9 g
def pb.KV:pb→Option mH
 | .alloc e zs=>some (.alloc e zs)
 | .nF e n zs ps=>some (.nF e n zs ps)
 | .make e b zs l c=>some (.make e b zs l c)
 | .o9 g=>some (.o9 g)
 | _=>none
def lB (a:mH) (g:Operand→Value):Option ((Nat→Value)×aq):=
 match a with
 | .alloc e zs=>some (fun i=>.pointer (some ⟨i,0,none⟩),.arr e zs)
 | .nF e n zs ps=>(su (iO zs n) (ps.map fun (o,s,x)=>(o,s,g x))).map fun cs=>(fun i=>sl e i 0 n,.arr e cs)
 | .make e bytes zs l c=>
  match g l,g c with
  | .int _ l,.int _ c=>if 0≤l∧l≤c∧(bytes:Int)*c≤281474976710656∧c≤9223372036854775807 then some (fun i=>sl e i 0 l.toNat,.arr e (iO zs l.toNat)) else none
  | _,_=>none
 | .o9 g=>some (fun i=>.map (some i),.cR g 0 [])
theorem aet (a:mH) (g:Operand→Value) (h:ae):fZ (.fl a) g h=(lB a g).map fun p=>(p.1 h.length,h++[p.2]):=by
 cases a with
 | alloc e zs=>rfl
 | nF e n zs ps=>simp only [fZ,lB,dH,Option.map_map];rfl
 | make e b zs l c=>
  simp only [fZ,lB,mV]
  split
  ·split <;> rfl
  ·rfl
 | o9 g=>rfl
theorem aw2 (a:mH) (g:Operand→Value) (h:ae):fZ a.Fh g h=fZ (.fl a) g h:=by cases a <;> rfl
theorem alX {e:pb} {a:mH} (h:e.KV=some a):a.Fh=e:=by
 cases e <;> simp [pb.KV] at h <;> subst h <;> rfl
theorem N7 {a:mH} {g:Operand→Value} {V:Nat→Value} {o:aq} (h:lB a g=some (V,o)):∀i,zw (V i)=some i:=by
 cases a with
 | o9 g=>simp [lB] at h;obtain ⟨rfl,_⟩:=h;intro i;rfl
 | alloc e zs=>simp [lB] at h;obtain ⟨rfl,_⟩:=h;intro i;rfl
 | nF e n zs ps=>simp only [lB,map_eq_some_iff,Prod.mk.injEq] at h;obtain ⟨_,_,rfl,_⟩:=h;intro i;rfl
 | make e b zs l c=>
  simp only [lB] at h
  split at h
  ·split at h
   ·simp at h;obtain ⟨rfl,_⟩:=h;intro i;rfl
   ·cases h
  ·cases h
def Cu (P:Program) (t:TypeId):Option Value:=
 match P.info? t with
 | some i=>match i.zero with
  | some z=>if AQ z then some z else none
  | none=>none
 | none=>none
def isString (P:Program) (t:TypeId):Bool:=match P.underlying t with | some .string=>true | _=>false
def zB (P:Program) (t:TypeId):Option IntKind:=match P.underlying t with | some (.int k)=>some k | _=>none
def Aq:Value→Bool
 | .agg cs=>cs.toList.all AQ
 | v=>me v
def Lg (P:Program) (t:TypeId):Option Value:=
 match P.info? t with
 | some i=>match i.zero with
  | some z=>if Aq z then some z else none
  | none=>none
 | none=>none
def rr (P:Program) (t:TypeId):Option fR:=
 match P.underlying t with
 | some (.map kt et)=>
  match P.underlying et with
  | some (.int _)=>none
  | _=>
   match P.underlying kt with
   | some .string=>some .str
   | some (.int k)=>some (.int k)
   | some (.array n e)=>
    match P.underlying e with
    | some (.int k)=>if (P.cellsOf e==1&&P.cellsOf kt==n&& !(P.types.size==0))=true then some (.ints n k) else none
    | _=>none
   | _=>none
 | _=>none
def uN (P:Program):Op→Option pe
 | .load t a=>
  match P.underlying t with
  | some d=>if iI P t&&(ow d||P.cellsOf t==1) then some (.load (ow d) (P.cellsOf t) a) else none
  | none=>none
 | .entry it=>some (.entry it)
 | .convert s d x=>
  match P.underlying s,P.underlying d with
  | some (.slice e),some .string=>match P.underlying e with | some (.int .u8)=>some (.yb x) | _=>none
  | _,_=>none
 | .lookup t m k ok=>
  match rr P t with
  | some g=>match P.underlying t with
   | some (.map _ et)=>(Lg P et).map fun z=>.Ji g ok z m k
   | _=>none
  | none=>
  match P.underlying t with
  | some (.map kt et)=>if isString P kt then (Cu P et).map fun z=>.lookup ok z m k else (zB P kt).bind fun kd=>(Cu P et).map fun z=>.Jj kd ok z m k
  | _=>none
 | _=>none
def iD (P:Program):Op→Option pb
 | .store t a v=>if iI P t then some (.store (P.cellsOf t) a v) else none
 | .box e x=>some (.box e x)
 | .alloc e=>(zeroOf P e).map fun zs=>.alloc e zs
 | .buildSlice t n ps=>
  match P.underlying t with
  | some (.slice e)=>
   match zeroOf P e with
   | some zs=>if n*P.cellsOf e≤16777216∧P.cellsOf e≠0 then some (.nF e n zs (ps.toList.map fun (i,x)=>(i*P.cellsOf e,P.cellsOf e,x))) else none
   | none=>none
  | _=>none
 | .makeSlice t l c=>
  match P.underlying t with
  | some (.slice e)=>
   match zeroOf P e with
   | some zs=>some (.make e (P.bytesOf e) zs l c)
   | none=>none
  | _=>none
 | .call { callee:=.builtin .append,args,argTypes }=>
  match args.toList,argTypes.toList with
  | [s,x],[t,t']=>
   if t=t' then
    match P.underlying t with
    | some (.slice e)=>
     match zeroOf P e with
     | some _=>some (.app e (P.cellsOf e) (P.bytesOf e) s x)
     | none=>none
    | _=>none
   else none
  | _,_=>none
 | .makeMap t none=>
  match rr P t with
  | some g=>some (.o9 g)
  | none=>
  match P.underlying t with
  | some (.map kt _)=>some (match zB P kt with | some kd=>.Jo kd | none=>.mkMap)
  | _=>some .mkMap
 | .mapUpdate t m k v | .insert t m k v=>
  match rr P t with
  | some g=>some (.Sl g m k v)
  | none=>
  match P.underlying t with
  | some (.map kt _)=>if isString P kt then some (.Sk m k v) else (zB P kt).map fun kd=>.Sm kd m k v
  | _=>none
 | .call { callee:=.builtin .delete,args,argTypes }=>
  match args.toList,argTypes[0]? with
  | [m,k],some t=>(rr P t).map fun g=>.Dj g m k
  | _,_=>none
 | .call { callee:=.builtin .copy,args,argTypes }=>
  match args.toList,argTypes.toList with
  | [d,s],[t,_]=>
   match P.underlying t with
   | some (.slice e)=>if (P.info? e).map (·.size)=some 1 then some (.copy d s) else none
   | _=>none
  | _,_=>none
 | .range t x=>(rr P t).map fun _=>.Us x
 | .next it false=>some (.next it)
 | .panic _ | .makeInterface .. =>some .die
 | _=>none
end
section
theorem aDB {ρ:aK} {i o n:Nat} {e:TypeId} {y:Value} (h:ax ρ (.slice (some ⟨i,o,some e⟩) n n) y):
  ∃r o' c',ρ i=some r∧r.elem=e∧y=.slice (some ⟨r.bw,o',none⟩) n c'∧(o'=r.sh+o∨(n=0∧0<o∧c'=0))∧n≤c'∧c'≤maxLen∧o'+c'*r.aX≤r.size:=by
 cases h with
 | slice hr a b c d=>exact ⟨_,_,_,hr,rfl,rfl,a,b,c,d⟩
theorem ax.down {ρ av:aK} (hle:ρ.le av) {x y0:Value} (h0:ax ρ x y0):∀{y:Value},ax av x y→ax ρ x y:=by
 have same:∀{i:Nat} {r r':RI},ρ i=some r→av i=some r'→r'=r:=fun h h'=>by rw [hle _ _ h] at h';cases h';rfl
 induction h0 with
 | bool b=>intro y h;cases h;exact .bool b
 | int k n=>intro y h;cases h;exact .int k n
 | string s=>intro y h;cases h;exact .string s
 | ue=>intro y h;cases h;exact .ue
 | qO=>intro y h;cases h;exact .qO
 | uc=>intro y h;cases h;exact .uc
 | nilFunc=>intro y h;cases h;exact .nilFunc
 | nilIface=>intro y h;cases h;exact .nilIface
 | ptr hi=>intro y h;cases h with | ptr ik=>cases same hi ik;exact .ptr hi
 | slice hi a b c d=>
  intro y h
  obtain ⟨r',o',c',h1,h2,rfl,h3,h4,h5,h6⟩:=aDB h
  cases same hi h1
  exact .slice hi h3 h4 h5 h6
 | void a=>intro y h;cases h;exact .void _
 | map hi=>intro y h;cases h with | map ik=>cases same hi ik;exact .map hi
 | yield hi=>intro y h;cases h with | yield ik=>cases same hi ik;exact .yield hi
 | func f s1 s2 _ _ zx BI=>
  intro y h
  cases h with
  | func _ t1 t2 q1 q2=>
   refine .func f t1 t2 (fun k x x' e e'=>?_) (fun k x x' e e'=>?_)
   ·obtain ⟨z,hz⟩:∃z,_=some z:=⟨_,getElem?_eq_getElem (by rw [←s1];exact (Array.getElem?_eq_some_iff.1 e).1)⟩
    exact zx k x z e hz (q1 k x x' e e')
   ·obtain ⟨z,hz⟩:∃z,_=some z:=⟨_,getElem?_eq_getElem (by rw [←s2];exact (Array.getElem?_eq_some_iff.1 e).1)⟩
    exact BI k x z e hz (q2 k x x' e e')
 | agg s1 hc _ ih=>
  intro y h
  cases h with
  | agg t1 _ q1=>
   refine .agg t1 hc (fun k x x' e e'=>?_)
   obtain ⟨z,hz⟩:∃z,_=some z:=⟨_,getElem?_eq_getElem (by rw [←s1];exact (Array.getElem?_eq_some_iff.1 e).1)⟩
   exact ih k x z e hz (q1 k x x' e e')
 | any v=>intro y _;exact .any y
 | tuple s1 _ ih=>
  intro y h
  cases h with
  | tuple t1 q1=>
   refine .tuple t1 (fun k x x' e e'=>?_)
   obtain ⟨z,hz⟩:∃z,_=some z:=⟨_,getElem?_eq_getElem (by rw [←s1];exact (Array.getElem?_eq_some_iff.1 e).1)⟩
   exact ih k x z e hz (q1 k x x' e e')
theorem fX.down {ρ av:aK} (hle:ρ.le av) {c c':Array Value} {sh sh':Nat} {xs:List Value} (h0:fX ρ c sh xs) (h:fX av c' sh' xs):fX ρ c' sh' xs:=by
 intro j x hj
 obtain ⟨_,y0,_,r0⟩:=h0 j x hj
 obtain ⟨c1,y,hy,r⟩:=h j x hj
 exact ⟨c1,y,hy,r0.down hle r⟩
theorem kY.down {ρ av:aK} (hle:ρ.le av) {w w':World} {r:RI} {o:aq} (h0:kY ρ w r o) (h:kY av w' r o):kY ρ w' r o:=by
 cases o with
 | ro e xs=>
  obtain ⟨_,_,_,_,_,_,b4⟩:=h0
  obtain ⟨a1,c,t,fr,a2,a3,a4⟩:=h
  exact ⟨a1,c,t,fr,a2,a3,b4.down hle a4⟩
 | arr e xs=>
  obtain ⟨_,_,_,_,_,b4⟩:=h0
  obtain ⟨a1,a0,c,a2,a3,a4⟩:=h
  exact ⟨a1,a0,c,a2,a3,b4.down hle a4⟩
 | smap es=>
  obtain ⟨_,_,_,_,b3⟩:=h0
  obtain ⟨aJ,clock,a1,a2,a3⟩:=h
  refine ⟨aJ,clock,a1,a2,fun j k v hj=>?_⟩
  obtain ⟨_,_,_,r0⟩:=b3 j k v hj
  obtain ⟨en,e1,e2,e3⟩:=a3 j k v hj
  exact ⟨en,e1,e2,r0.down hle e3⟩
 | kH kd es=>
  obtain ⟨_,_,_,_,b3⟩:=h0
  obtain ⟨aJ,clock,a1,a2,a3⟩:=h
  refine ⟨aJ,clock,a1,a2,fun j k v hj=>?_⟩
  obtain ⟨_,_,_,r0⟩:=b3 j k v hj
  obtain ⟨en,e1,e2,e3⟩:=a3 j k v hj
  exact ⟨en,e1,e2,r0.down hle e3⟩
 | cR g c es=>
  obtain ⟨_,_,_,_,b3⟩:=h0
  obtain ⟨a0,aJ,a1,a2,a3⟩:=h
  refine ⟨a0,aJ,a1,a2,fun j b k v hj=>?_⟩
  obtain ⟨_,_,_,_,_,r0⟩:=b3 j b k v hj
  obtain ⟨e0,en,e1,e2,ym,e3⟩:=a3 j b k v hj
  exact ⟨e0,en,e1,e2,ym,r0.down hle e3⟩
 | iter m s n l=>
  obtain ⟨_,rm0,b1,_⟩:=h0
  obtain ⟨a0,rm,a1,a2⟩:=h
  have:=hle _ _ b1
  rw [a1] at this
  cases this
  exact ⟨a0,rm0,b1,a2⟩
 | loop c ls vs=>
  obtain ⟨_,_,_,_,_,_,_,_,b8⟩:=h0
  obtain ⟨rec,a1,a2,a3,a4,a5,a6,a7,a8⟩:=h
  exact ⟨rec,a1,a2,a3,a4,a5,a6,a7,fun t=>(b8 t).down hle (a8 t)⟩
 | dead=>trivial
theorem sY.rel {ρ av:aK} {v v':Value} (h:sY v=true) (hv:ax ρ v v'):ax av v v':=by
 unfold sY at h
 split at h
 ·cases hv;exact .bool _
 ·cases hv;exact .int _ _
 ·cases hv;exact .string _
 ·cases hv;exact .nilFunc
 ·cases hv;exact .nilIface
 ·cases hv;exact .ue
 ·cases hv;exact .uc
 ·cases hv;exact .qO
 ·cases h
theorem aZ.Ig {P:Program} {ρ:aK} {h:ae} {w:World} (H:aZ P ρ h w) (os:ae):aZ P ρ (h++os) w where
 obj i r hi:=by
  obtain ⟨o,ho,hr⟩:=H.obj i r hi
  exact ⟨o,by rw [getElem?_append_left (H.lt hi)];exact ho,hr⟩
 inj i j r s hi hj hb hm hl:=by
  refine H.inj i j r s hi hj hb ?_ ?_
  ·unfold cB at hm⊢;rw [getElem?_append_left (H.lt hi)] at hm;exact hm
  ·unfold eX at hl⊢;rw [getElem?_append_left (H.lt hj)] at hl;exact hl
 aX:=H.aX
theorem Tr.Ig {P:Program} {ρ:aK} {h:ae} {w:World} (H:aZ P ρ h w) (os:ae):Tr ρ h w ρ (h++os) w where
 ext:=.refl _
 len:=by simp
 jC:=fun _ _ hi=>H.lt hi
 kinds:=fun i hi hm=>by unfold cB at hm⊢;rw [getElem?_append_left hi] at hm;exact hm
 fresh:=fun i r h1 h2=>by rw [h1] at h2;cases h2
 iL:=le_refl _
 hY:=fun _ _ _=>rfl
 os:=rfl
 tape:=rfl
 output:=rfl
theorem aw3 {lo:pe} {g:Operand→Value} {h:ae} {v:Value} (os:ae) (hl:fF lo g h=some v):fF lo g (h++os)=some v:=by
 have get:∀{i:Nat} {o:aq},h[i]?=some o→(h++os)[i]?=some o:=by
  intro i o hi
  rw [getElem?_append_left (bK hi).1];exact hi
 have cells:∀{i:Nat} {xs:List Value},aR h i=some xs→aR (h++os) i=some xs:=by
  intro i xs hc
  unfold aR at hc⊢
  split at hc
  ·rename_i e ys hq;rw [get hq];exact hc
  ·rename_i e ys hq;rw [get hq];exact hc
  ·cases hc
 cases lo with
 | load agg n a=>
  simp only [fF,af] at hl⊢
  split at hl
  ·rename_i i o _
   cases hc:aR h i with
   | none=>rw [hc] at hl;cases hl
   | some xs=>rw [hc] at hl;rw [cells hc];exact hl
  ·cases hl
 | yb x=>
  have sc:∀{cs:List Value},kL h 1 (g x)=some cs→kL (h++os) 1 (g x)=some cs:=by
   intro cs hc
   unfold kL at hc⊢
   split at hc
   ·exact hc
   ·rename_i i o e n c hx
    split at hc
    ·rename_i h0;rw [if_pos h0];exact hc
    ·rename_i h0
     rw [if_neg h0]
     cases oc:aR h i with
     | none=>rw [oc] at hc;cases hc
     | some xs=>rw [oc] at hc;rw [cells oc];exact hc
   ·cases hc
  simp only [fF,rL] at hl⊢
  cases hc:kL h 1 (g x) with
  | none=>rw [hc] at hl;cases hl
  | some cs=>rw [hc] at hl;rw [sc hc];exact hl
 | lookup ok z m k=>
  simp only [fF,I2] at hl⊢
  split at hl
  ·rename_i i key hm hk
   split at hl
   ·rename_i es he;rw [get he];exact hl
   ·cases hl
  ·cases hl
 | Jj kd ok z m k=>
  simp only [fF,I3] at hl⊢
  split at hl
  ·rename_i i BM key hm hk
   split at hl
   ·rename_i nD es he;rw [get he];exact hl
   ·cases hl
  ·cases hl
 | Ji gk ok z m k=>
  simp only [fF,zv] at hl⊢
  split at hl
  ·rename_i i hm
   split at hl
   ·rename_i g' c es he;rw [get he];exact hl
   ·cases hl
  ·cases hl
 | entry it=>
  simp only [fF,zp] at hl⊢
  split at hl
  ·rename_i j hj
   split at hl
   ·rename_i i si seen last sH
    rw [get sH]
    simp only
    split at hl
    ·rename_i gg c es b iF hb
     rw [get iF,hb]
     exact hl
    ·cases hl
   ·cases hl
  ·cases hl
 | obj x=>
  simp only [fF,dZ] at hl⊢
  cases hx:zw (g x) with
  | none=>rw [hx] at hl;cases hl
  | some i=>
   rw [hx] at hl
   simp only [Option.bind_some] at hl⊢
   cases ho:h[i]? with
   | none=>rw [ho] at hl;cases hl
   | some o=>rw [ho] at hl;rw [get ho];exact hl
end
section
section
variable {P : Program} {w : World} {ρ : aK} {h : ae}
theorem aZ.cells (H:aZ P ρ h w) {i:Nat} {r:RI} {xs:List Value} (hi:ρ i=some r) (hx:aR h i=some xs):
  ∃c t fr,w.heap[r.bw]?=some (.cells c t fr)∧fX ρ c r.sh xs:=by
 obtain ⟨o,ho,hr⟩:=H.obj i r hi
 unfold aR at hx
 rw [ho] at hx
 cases o with
 | ro e ys=>
  simp at hx;subst hx
  obtain ⟨h1,c,t,fr,h2,h3,h4⟩:=hr
  exact ⟨c,t,fr,h2,h4⟩
 | arr e ys=>
  simp at hx;subst hx
  obtain ⟨h1,h0,c,h2,h3,h4⟩:=hr
  subst h1
  exact ⟨c,_,(0,0),h2,by rw [h0];exact h4⟩
 | smap es=>simp at hx
 | kH kd es=>simp at hx
 | cR g c es=>simp at hx
 | iter m s n l=>simp at hx
 | loop c ls vs=>simp at hx
 | dead=>simp at hx
theorem fX.Vq {c:Array Value} {sh o n:Nat} {xs:List Value} (hc:fX ρ c sh xs) (hl:o+n≤xs.length):
  ∃ys:List Value,bF ρ ((xs.drop o).take n) ys∧ys.length=n∧(∀x∈(xs.drop o).take n,gy x=true)∧∀j v,ys[j]?=some v→c[sh+o+j]?=some v:=by
 have key:∀j,j<n→∃x y,((xs.drop o).take n)[j]?=some x∧c[sh+o+j]?=some y∧ax ρ x y∧gy x=true:=by
  intro j hj
  have hx:xs[o+j]?=some (xs[o+j]'(by omega)):=List.getElem?_eq_getElem _
  obtain ⟨h1,y,hy,hr⟩:=hc (o+j) _ hx
  refine ⟨_,y,?_,by rw [←hy];congr 1;omega,hr,h1⟩
  rw [List.getElem?_take,if_pos hj,List.getElem?_drop]
  exact hx
 have hlen:((xs.drop o).take n).length=n:=by simp;omega
 refine ⟨(List.range n).map fun j=>c.getD (sh+o+j) Go.undef,?_,by simp,?_,?_⟩
 ·refine bF.Jv (by simp;omega) ?_
  intro k x y hx hy
  have hk:k<n:=by have:=(bK hx).1;omega
  obtain ⟨x',y',h1,h2,h3,_⟩:=key k hk
  rw [h1] at hx;cases hx
  simp [hk] at hy
  subst hy
  simpa [Array.getD,Array.getElem?_eq_some_iff.1 h2 |>.1,(Array.getElem?_eq_some_iff.1 h2).2] using h3
 ·intro x hx
  obtain ⟨k,hk⟩:=List.getElem?_of_mem hx
  have ca:k<n:=by have:=(bK hk).1;omega
  obtain ⟨x',y',h1,h2,h3,h4⟩:=key k ca
  rw [h1] at hk;cases hk
  exact h4
 ·intro j v hv
  by_cases hj:j<n
  ·obtain ⟨x',y',h1,h2,h3,_⟩:=key j hj
   simp [hj] at hv
   rw [h2,←hv]
   simp [Array.getElem?_eq_some_iff.1 h2 |>.1,(Array.getElem?_eq_some_iff.1 h2).2]
  ·simp [hj] at hv
theorem Hy {g o:Nat} {c:Array Value} {t:TypeId} {fr:Nat×Nat} (hg:w.heap[g]?=some (.cells c t fr)):w.cell? ⟨g,o,none⟩=c[o]?:=by
 simp [World.cell?,hg]
theorem aDj {g o n:Nat} {c:Array Value} {t:TypeId} {fr:Nat×Nat} {ys:List Value} (hg:w.heap[g]?=some (.cells c t fr)) (hl:ys.length=n) (hy:∀j v,ys[j]?=some v→c[o+j]?=some v):
  (loadCells ⟨g,o,none⟩ n).run P w=.ok ys.toArray w:=by
 subst hl
 exact run_loadCells_list w _ ys fun j v hj=>by rw [Addr.add_lit,Hy hg];exact hy j v hj
theorem alv (H:aZ P ρ h w) {t:TypeId} {d:TypeDesc} {a a' v:Value} (ht:P.underlying t=some d) (hk:iI P t=true) (hi:af (ow d) (P.cellsOf t) h a=some v) (ha:ax ρ a a'):
  ∃v',(Instr.loadAt t a').run P w=.ok v' w∧ax ρ v v':=by
 unfold af at hi
 split at hi
 ·rename_i i o
  obtain ⟨r,hr,rfl⟩:=ha.E2
  simp only [bind_eq_some_iff] at hi
  obtain ⟨xs,hx,hp⟩:=hi
  obtain ⟨c,_,fr,hb,hc⟩:=H.cells hr hx
  unfold cf at hp
  cases hd:ow d
  ·rw [hd] at hp
   simp at hp
   obtain ⟨h1,y,hy,hv⟩:=hc o v hp
   refine ⟨y,?_,hv⟩
   have:w.cell? ⟨r.bw,r.sh+o,none⟩=some y:=by rw [Hy hb,hy]
   simp [Instr.loadAt,Instr.sureAddr,loadVar,UE w ht,hd,this]
  ·rw [hd] at hp
   simp at hp
   obtain ⟨hl,rfl⟩:=hp
   obtain ⟨ys,h1,h2,h3,h4⟩:=hc.Vq hl
   refine ⟨.agg ys.toArray,?_,.AK h1 h3⟩
   simp [Instr.loadAt,Instr.sureAddr,loadVar,UE w ht,hd,qU w hk,aDj (P:=P) hb h2 h4]
 ·cases hi
theorem KH (H:aZ P ρ h w) {aX:Nat} {x x':Value} {cs:List Value} (hs:kL h aX x=some cs) (hx:ax ρ x x'):
  (x'=.slice none 0 0∧cs=[])∨(∃b o n c',x'=.slice (some ⟨b,o,none⟩) n c'∧pP x=some n∧cs.length=n*aX∧(∀v∈cs,gy v=true)∧
   ∃ys,bF ρ cs ys∧∀j v,ys[j]?=some v→w.cell? ⟨b,o+j,none⟩=some v):=by
 unfold kL at hs
 split at hs
 ·simp at hs;subst hs
  cases hx
  exact .inl ⟨rfl,rfl⟩
 ·rename_i i o e n c
  cases hx with
  | slice hr ho hn hc hb=>
   rename_i o' c' r
   split at hs
   ·rename_i h0
    simp at hs;subst hs;subst h0
    exact .inr ⟨_,_,_,_,rfl,rfl,by simp,by simp,[],.nil,by simp⟩
   ·rename_i h0
    simp only [bind_eq_some_iff] at hs
    obtain ⟨xs,hx,hl⟩:=hs
    split at hl
    ·rename_i hle
     simp at hl;subst hl
     obtain ⟨c,_,fr,sC,hc⟩:=H.cells hr hx
     obtain ⟨ys,h1,h2,h3,h4⟩:=hc.Vq hle
     have dO:o'=r.sh+o:=by
      rcases ho with ho | ⟨q1,q2,q3⟩
      ·exact ho
      ·omega
     subst dO
     refine .inr ⟨_,_,_,_,rfl,rfl,by simp;omega,h3,ys,h1,?_⟩
     intro j v hj
     rw [Hy sC]
     exact h4 j v hj
    ·cases hl
 ·cases hs
theorem afj:∀{cs:List Value} {l:List UInt8},cs.mapM CU=some l→∃ns:List Int,cs=ns.map (Value.int .u8)∧l=ns.map fun n=>UInt8.ofNat n.toNat
 | [],l,h=>by simp at h;subst h;exact ⟨[],rfl,rfl⟩
 | c::cs,l,h=>by
  simp only [List.mapM_cons,Option.bind_eq_bind,bind_eq_some_iff] at h
  obtain ⟨b,hb,bs,DH,h⟩:=h
  simp at h;subst h
  obtain ⟨ns,rfl,rfl⟩:=afj DH
  unfold CU at hb
  split at hb
  ·rename_i n
   simp at hb;subst hb
   exact ⟨n::ns,rfl,rfl⟩
  ·cases hb
theorem bF.ints {ns:List Int} {k:IntKind} {ys:List Value} (h:bF ρ (ns.map (Value.int k)) ys):ys=ns.map (Value.int k):=by
 induction ns generalizing ys with
 | nil=>cases h;rfl
 | cons n ns ih=>
  cases h with
  | cons a b=>rw [a.mw,ih b];rfl
theorem azo (ns:List Int):∀(s:ByteArray),ns.foldl (fun r n=>r.push (UInt8.ofNat n.toNat)) s=⟨(bytes s++ns.map fun n=>UInt8.ofNat n.toNat).toArray⟩:=by
 induction ns with
 | nil=>intro s;simp [Ex]
 | cons n ns ih=>
  intro s
  rw [List.foldl_cons,ih]
  simp [bytes]
theorem aCQ (H:aZ P ρ h w) {x x' v:Value} (hi:rL h x=some v) (hx:ax ρ x x'):(Conv.bytesToString x').run P w=.ok v w∧ax ρ v v:=by
 unfold rL at hi
 simp only [bind_eq_some_iff,map_eq_some_iff] at hi
 obtain ⟨cs,hs,l,hl,rfl⟩:=hi
 refine ⟨?_,ax.S _ _⟩
 obtain ⟨ns,rfl,rfl⟩:=afj hl
 rcases KH H hs hx with ⟨rfl,h0⟩ | ⟨b,o,n,c',rfl,_,hlen,_,ys,hy,sD⟩
 ·have:ns=[]:=by simpa using h0
  subst this
  simp [Conv.bytesToString,S]
  rfl
 ·have e:=hy.ints
  subst e
  simp at hlen
  have hld:(loadCells ⟨b,o,none⟩ n).run P w=.ok (ns.map (Value.int .u8)).toArray w:=by
   have:=run_loadCells_list (P:=P) w ⟨b,o,none⟩ (ns.map (Value.int .u8)) (fun j v hj=>by rw [Addr.add_lit];exact sD j v hj)
   simpa [hlen] using this
  rw [run_bytesToString w _ n c' ns hld,azo]
  rfl
end
end
section
theorem aex {a b:Value} (h:xv a b=true):a=b:=by
 unfold xv at h
 split at h
 ·simp only [and_eq_true,decide_eq_true_eq] at h;rw [h.1,h.2]
 ·cases h
theorem aez:∀{a b:List Value},tV a b=true→a=b
 | [],[],_=>rfl
 | a::uM,b::bs,h=>by
  simp only [tV,and_eq_true] at h
  rw [aex h.1,aez h.2]
 | [],_::_,h=>by cases h
 | _::_,[],h=>by cases h
theorem aeA {k:IntKind}:∀{a:List Value},(∀v∈a,kh k v=true)→tV a a=true
 | [],_=>rfl
 | a::uM,h=>by
  simp only [tV,and_eq_true]
  refine ⟨?_,aeA fun v hv=>h v (by simp [hv])⟩
  have:=h a (by simp)
  unfold kh at this
  split at this
  ·simp [xv]
  ·cases this
theorem acI {a b:Value} (h:mN a b=true):a=b:=by
 unfold mN at h
 split at h
 ·rename_i s t
  simp at h
  have:=Ex s
  rw [h,Ex] at this
  rw [this]
 ·rw [ext' (aez h)]
 ·exact aex h
theorem avl {g:fR} {a:Value} (h:fc g a=true):mN a a=true:=by
 unfold fc at h
 split at h
 ·unfold kh at h
  split at h
  ·simp [mN,xv]
  ·cases h
 ·simp [mN]
 ·simp only [and_eq_true,all_eq_true] at h
  exact aeA fun v hv=>(h.2 v hv).1
 ·cases h
theorem avk {g:fR} {a b:Value} (h:fc g a=true):mN a b=true↔a=b:=⟨acI,fun e=>e ▸ avl h⟩
theorem Kc {g:fR} {k:Value} (hk:fc g k=true):∀es:List (Nat×Value×Value),(lQ k es=none∧∀e∈es,e.2.1≠k)∨∃j e,lQ k es=some j∧es[j]?=some e∧e.2.1=k
 | []=>.inl ⟨rfl,by simp⟩
 | (b,k',v)::es=>by
  simp only [lQ]
  by_cases h:mN k k'=true
  ·rw [if_pos h]
   exact .inr ⟨0,(b,k',v),rfl,rfl,(acI h).symm⟩
  ·rw [if_neg h]
   rcases Kc hk es with ⟨h1,h2⟩ | ⟨j,e,h1,h2,h3⟩
   ·refine .inl ⟨by rw [h1];rfl,?_⟩
    intro e he
    rcases List.mem_cons.1 he with rfl | he
    ·intro e'
     exact h ((avk hk).2 e'.symm)
    ·exact h2 e he
   ·exact .inr ⟨j+1,e,by rw [h1];rfl,by simpa using h2,h3⟩
structure FD (P:Program) (kt:TypeId) (g:fR):Prop where
 check:∀(w:World) (em:Bool) (v:Value),fc g v=true→(Instr.checkKey em 10000 kt v).run P w=.ok () w
 find:∀(w:World) (x:Value),fc g x=true→∀es:List MapEntry,(∀e∈es,fc g e.key=true)→
  ((Instr.findKey kt x es).run P w=.ok none w∧∀e∈es,e.key≠x)∨∃j e,(Instr.findKey kt x es).run P w=.ok (some (j,e.val)) w∧es[j]?=some e∧e.key=x
 stays:∀(w:World) (v:Value),fc g v=true→(Instr.keyThatStays v v).run P w=.ok v w
theorem akj {P:Program} {kt:TypeId} {g:fR} {d:TypeDesc} (hd:P.underlying kt=some d) (hg:∀v,fc g v=true→MapKept.IsKey d v):FD P kt g where
 check w em v hv:=MapKept.run_checkKey hd (hg v hv) em 9999
 find w x hx es iF:=by
  rcases MapKept.findNow_spec (hg x hx) es 0 (fun e he=>hg _ (iF e he)) with ⟨h1,h2⟩ | ⟨j,e,h1,h2,h3⟩
  ·exact .inl ⟨MapKept.run_findKey hd h1,h2⟩
  ·exact .inr ⟨j,e,by simpa using MapKept.run_findKey hd h1,h2,h3⟩
 stays w v hv:=MapKept.run_keyThatStays (hg v hv)
section
variable {P : Program}
theorem aeB {k:IntKind} {e:TypeId} {D:Nat} (he:P.underlying e=some (.int k)) (hc:P.cellsOf e=1) (cs:List Value) (h:∀v∈cs,(kh k v&&Eh k v)=true):
  ∀m,m≤cs.length→∃ls,((List.range m).mapM fun i=>P.keyLits (D+1) e ((cs.drop (i*P.cellsOf e)).take (P.cellsOf e)))=some ls
 | 0,_=>⟨[],rfl⟩
 | m+1,hm=>by
  obtain ⟨ls,QM⟩:=aeB he hc cs h m (by omega)
  have vp:m<cs.length:=by omega
  have hv:=h cs[m] (List.getElem_mem vp)
  rw [and_eq_true] at hv
  have h1:(cs.drop (m*P.cellsOf e)).take (P.cellsOf e)=[cs[m]]:=by
   rw [hc,Nat.mul_one]
   apply List.ext_getElem?
   intro i
   rw [List.getElem?_take]
   cases i with
   | zero=>simp [vp]
   | succ i=>simp
  generalize cs[m]=v at hv h1
  obtain ⟨k',n,rfl⟩:∃k' n,v=.int k' n:=by
   cases v <;> first | exact ⟨_,_,rfl⟩ | simp [kh] at hv
  have hk:k'=k:=by simpa [kh] using hv.1
  subst hk
  have hr:k'.min≤n∧n≤k'.max:=by simpa [Eh] using hv.2
  have hw:(Lit.int k' n).wf=true:=by simp [Lit.wf,hr]
  refine ⟨ls++[[.int k' n]],?_⟩
  rw [List.range_succ,List.mapM_append,QM]
  simp [h1,Program.keyLits,he,hw]
theorem aw6 {kt e:TypeId} {n:Nat} {k:IntKind} (hu:P.underlying kt=some (.array n e)) (he:P.underlying e=some (.int k)) (Iv:P.cellsOf e=1) (Ql:P.cellsOf kt=n) (jw:P.types.size≠0):FD P kt (.ints n k):=by
 have A:WideMaps.ArrKey P kt e n:=⟨hu,by simp [Program.plainKey,he],Iv,Ql⟩
 have key:∀v,fc (.ints n k) v=true→∃l,keyOf P kt v=some l:=by
  intro v hv
  cases v <;> simp [fc] at hv
  rename_i cs
  obtain ⟨h1,h2⟩:=hv
  have hkt:=A.keyType ⟨P.types.size-1,by omega⟩
  obtain ⟨D,hD⟩:∃D,P.types.size=D+1:=⟨P.types.size-1,by omega⟩
  obtain ⟨ls,QM⟩:=aeB (D:=D) he Iv cs.toList (fun v hv=>by obtain ⟨i,hi,e⟩:=List.mem_iff_getElem.1 hv;have:=h2 i (by simpa using hi);rw [←e];simpa using this) n (by simp [h1])
  refine ⟨.string (keyBytes ls.flatten),?_⟩
  unfold keyOf
  rw [hu]
  have hf:(Value.agg cs).formed P kt=true:=by simp [Value.formed,hu,Ql,h1]
  simp only [hkt,hf,Bool.and_self,if_true]
  unfold Program.keyLits
  rw [hu]
  have hl:(Value.agg cs).cells.toList.length=P.cellsOf kt:=by simp [Value.cells,Ql,h1]
  simp only [hl,if_true,hD]
  have:(Value.agg cs).cells.toList=cs.toList:=rfl
  rw [this,QM]
  rfl
 have K:=A.law
 exact {
  check:=fun w em v hv=>let ⟨l,hl⟩:=key v hv;K.check w em hl
  find:=fun w x hx es iF=>let ⟨l,hl⟩:=key x hx;K.find w hl es fun e he=>key _ (iF e he)
  stays:=fun w v hv=>let ⟨l,hl⟩:=key v hv;K.stays w hl }
theorem Ik {t:TypeId} {g:fR} (h:rr P t=some g):∃kt et,P.underlying t=some (.map kt et)∧FD P kt g:=by
 unfold rr at h
 split at h
 ·rename_i kt et ht
  refine ⟨kt,et,ht,?_⟩
  split at h
  ·cases h
  ·split at h
   ·rename_i hk
    simp at h;subst h
    exact akj hk fun v hv=>by cases v <;> simp [fc] at hv;trivial
   ·rename_i k hk
    simp at h;subst h
    exact akj hk fun v hv=>by cases v <;> simp [fc,kh] at hv;exact hv
   ·rename_i n e hk
    split at h
    ·rename_i k he
     split at h
     ·rename_i hc
      simp at h;subst h
      simp at hc
      exact aw6 hk he hc.1.1 hc.1.2 (by rw [Ne,Array.size_eq_zero_iff];exact hc.2)
     ·cases h
    ·cases h
   ·cases h
 ·cases h
end
section
variable {P : Program} {w : World} {ρ : aK} {h : ae}
structure sj (ρ:aK) (g:fR) (es:List (Nat×Value×Value)) (aJ:Array MapEntry):Prop where
 size:aJ.size=es.length
 nodup:(es.map fun e=>e.2.1).Nodup
 get:∀(j b:Nat) (k v:Value),es[j]?=some (b,k,v)→fc g k=true∧∃en,aJ[j]?=some en∧en.key=k∧en.born=b∧ax ρ v en.val
theorem aZ.AY (H:aZ P ρ h w) {i:Nat} {r:RI} {g:fR} {c:Nat} {es:List (Nat×Value×Value)} (hi:ρ i=some r) (he:h[i]?=some (.cR g c es)):
  ∃aJ,w.heap[r.bw]?=some (.map aJ c)∧sj ρ g es aJ:=by
 obtain ⟨o,ho,hr⟩:=H.obj i r hi
 rw [he] at ho
 cases ho
 obtain ⟨h0,aJ,h1,h2,h3⟩:=hr
 exact ⟨aJ,h1,h2,h0,h3⟩
theorem sj.inv {g:fR} {es:List (Nat×Value×Value)} {aJ:Array MapEntry} (E:sj ρ g es aJ) {j:Nat} {en:MapEntry} (hj:aJ[j]?=some en):∃v,es[j]?=some (en.born,en.key,v)∧fc g en.key=true∧ax ρ v en.val:=by
 have aD:j<es.length:=by rw [←E.size];exact (Array.getElem?_eq_some_iff.1 hj).1
 obtain ⟨b,k,v⟩:Nat×Value×Value:=es[j]
 have iF:=List.getElem?_eq_getElem aD
 generalize he:es[j]=x at iF
 obtain ⟨b,k,v⟩:=x
 obtain ⟨g1,en',g2,g3,g4,g5⟩:=E.get j b k v iF
 rw [hj] at g2
 cases g2
 subst g3;subst g4
 exact ⟨v,iF,g1,g5⟩
theorem UC {g:fR} {kt:TypeId} {es:List (Nat×Value×Value)} {aJ:Array MapEntry} (L:FD P kt g) (E:sj ρ g es aJ) {k:Value} (hk:fc g k=true):
  ((lQ k es=none∧(∀e∈es,e.2.1≠k))∧(Instr.findKey kt k aJ.toList).run P w=.ok none w)∨
  ∃j b v en,lQ k es=some j∧es[j]?=some (b,k,v)∧aJ[j]?=some en∧en.key=k∧en.born=b∧ax ρ v en.val∧(Instr.findKey kt k aJ.toList).run P w=.ok (some (j,en.val)) w:=by
 have fJ:∀e∈aJ.toList,fc g e.key=true:=by
  intro e he
  obtain ⟨j,hj,e'⟩:=List.mem_iff_getElem.1 he
  have:aJ[j]?=some e:=by
   rw [←getElem?_toList,List.getElem?_eq_getElem hj,e']
  exact (E.inv this).choose_spec.2.1
 rcases L.find w k hk aJ.toList fJ with ⟨h1,h2⟩ | ⟨j,en,h1,h2,h3⟩
 ·rcases Kc hk es with ⟨p1,p2⟩ | ⟨j,e,p1,p2,p3⟩
  ·exact .inl ⟨⟨p1,p2⟩,h1⟩
  ·exfalso
   obtain ⟨b,k',v⟩:=e
   obtain ⟨_,en,q1,q2,_⟩:=E.get j b k' v p2
   have hm:en∈aJ.toList:=by
    rw [←getElem?_toList] at q1
    exact mem_of_getElem? q1
   exact h2 en hm (q2.trans p3)
 ·have h2':aJ[j]?=some en:=by rw [←getElem?_toList];exact h2
  obtain ⟨v,q1,q2,q3⟩:=E.inv h2'
  rcases Kc hk es with ⟨p1,p2⟩ | ⟨j',e,p1,p2,p3⟩
  ·exact absurd h3 (p2 _ (mem_of_getElem? q1))
  ·have hj:j'=j:=by
    have hn:=List.pairwise_iff_getElem.1 E.nodup
    have l1:j<es.length:=(bK q1).1
    have l2:j'<es.length:=(bK p2).1
    have k1:(es.map fun e=>e.2.1)[j]'(by simpa using l1)=k:=by
     have:=(bK q1).2
     simp [this,h3]
    have k2:(es.map fun e=>e.2.1)[j']'(by simpa using l2)=k:=by
     have:=(bK p2).2
     simp [this,p3]
    rcases Nat.lt_trichotomy j j' with aD | heq | aD
    ·exact absurd (k1.trans k2.symm) (hn j j' _ _ aD)
    ·exact heq.symm
    ·exact absurd (k2.trans k1.symm) (hn j' j _ _ aD)
   subst hj
   exact .inr ⟨_,_,v,en,p1,by rw [q1,h3],h2',h3,rfl,q3,h1⟩
theorem Aq.rel {z:Value} (h:Aq z=true):ax ρ z z:=by
 unfold Aq at h
 split at h
 ·rename_i cs
  rw [all_eq_true] at h
  have cl:∀x∈cs.toList,me x=true∧gy x=true:=fun x hx=>by have:=h x hx;simpa [AQ] using this
  refine .agg rfl (fun x hx=>(cl x hx).2) (fun k x x' hx bR=>?_)
  rw [hx] at bR
  cases bR
  exact me.rel (cl x (by rw [←getElem?_toList] at hx;exact mem_of_getElem? hx)).1
 ·exact me.rel h
theorem aCX (H:aZ P ρ h w) {it Ei v:Value} (hi:zp h it=some v) (hv:ax ρ it Ei):∃v',(Instr.entry Ei).run P w=.ok v' w∧ax ρ v v':=by
 unfold zp at hi
 split at hi
 ·rename_i j
  split at hi
  ·rename_i i kl seen last sH
   split at hi
   ·rename_i g c es b iF hb
    split at hi
    ·rename_i fT
     subst fT
     cases hv with
     | ptr hr=>
      rename_i r
      obtain ⟨o,ho,nC⟩:=H.obj j r hr
      rw [sH] at ho
      cases ho
      obtain ⟨xk,rm,IV,sC⟩:=nC
      obtain ⟨aJ,hm,E⟩:=H.AY IV iF
      rw [xk]
      rw [map_eq_some_iff] at hi
      obtain ⟨e,he,rfl⟩:=hi
      have avI:∃en,aJ.find? (fun x=>x.born==b)=some en∧en.key=e.2.1∧fc g e.2.1=true∧ax ρ e.2.2 en.val:=by
       rw [←Array.find?_toList]
       have key:∀(l1:List (Nat×Value×Value)) (l2:List MapEntry),l2.length=l1.length→(∀(j b:Nat) (k v:Value),l1[j]?=some (b,k,v)→fc g k=true∧∃en,l2[j]?=some en∧en.key=k∧en.born=b∧ax ρ v en.val)→
         l1.find? (fun x=>x.1==b)=some e→∃en,l2.find? (fun x=>x.born==b)=some en∧en.key=e.2.1∧fc g e.2.1=true∧ax ρ e.2.2 en.val:=by
        intro l1
        induction l1 with
        | nil=>intro l2 _ _ h;simp at h
        | cons x l1 ih=>
         intro l2 hl fJ hf
         obtain ⟨bx,kx,vx⟩:=x
         cases l2 with
         | nil=>simp at hl
         | cons y l2=>
          obtain ⟨g1,en,g2,g3,g4,g5⟩:=fJ 0 bx kx vx rfl
          simp at g2
          subst g2
          rw [List.find?_cons] at hf⊢
          by_cases Bh:(bx==b)=true
          ·simp only [Bh] at hf
           cases hf
           rw [g4]
           simp only [Bh]
           exact ⟨y,rfl,g3,g1,g5⟩
          ·have Bh:(bx==b)=false:=by simpa using Bh
           simp only [Bh] at hf
           rw [g4]
           simp only [Bh]
           exact ih l2 (by simpa using hl) (fun j b k v hj=>by simpa using fJ (j+1) b k v (by simpa using hj)) hf
       exact key es aJ.toList (by simp [E.size]) (fun j b k v hj=>by simpa using E.get j b k v hj) he
      obtain ⟨en,f1,f2,f3,f4⟩:=avI
      have bU:(getObj r.bw).run P w=.ok (.mapIter (some rm.bw) kl seen.toArray c) w:=by simp [getObj,Sem.run,sC]
      have Qv:(getObj rm.bw).run P w=.ok (.map aJ c) w:=by simp [getObj,Sem.run,hm]
      have yB:seen.toArray.back?=some b:=by simpa using hb
      refine ⟨.tuple #[en.key,en.val],?_,?_⟩
      ·unfold Instr.entry
       simp [bU,Qv,hb,f1]
      ·rw [f2]
       have QI:ax ρ e.2.1 e.2.1:=by
        have ints:∀{kd:IntKind} {v:Value},kh kd v=true→ax ρ v v∧gy v=true:=by
         intro kd v hv
         cases v <;> simp [kh] at hv
         exact ⟨.int _ _,rfl⟩
        cases xc:e.2.1 with
        | int kd n=>exact .int _ _
        | string s=>exact .string _
        | agg cs=>
         rw [xc] at f3
         cases g with
         | ints n kd=>
          simp only [fc,and_eq_true,all_eq_true] at f3
          refine .agg rfl (fun x hx=>(ints (f3.2 x hx).1).2) (fun k x x' hx bR=>?_)
          rw [hx] at bR
          cases bR
          exact (ints (f3.2 x (by rw [←getElem?_toList] at hx;exact mem_of_getElem? hx)).1).1
         | int _=>simp [fc,kh] at f3
         | str=>simp [fc] at f3
        | _=>rw [xc] at f3;cases g <;> simp [fc,kh] at f3
       exact ax.rU (.cons QI (.cons f4 .nil))
    ·cases hi
   ·cases hi
  ·cases hi
 ·cases hi
theorem aEM {t:TypeId} {z:Value} (hz:Lg P t=some z):(∀w,(zeroValue t).run P w=.ok z w)∧Aq z=true:=by
 unfold Lg at hz
 split at hz
 ·rename_i i hi
  split at hz
  ·rename_i z' rK
   split at hz
   ·rename_i hc
    simp at hz;subst hz
    exact ⟨fun w=>Ae w hi rK,hc⟩
   ·cases hz
  ·cases hz
 ·cases hz
theorem ax.key {g:fR} {k k':Value} (hk:fc g k=true) (h:ax ρ k k'):k'=k:=by
 have ints:∀{kd:IntKind} {v v':Value},kh kd v=true→ax ρ v v'→v'=v:=by
  intro kd v v' hv hr
  cases hr <;> first | rfl | simp [kh] at hv
 cases h with
 | int=>rfl
 | string=>rfl
 | agg hs _ fJ=>
  rename_i xs fx _
  cases g with
  | ints n kd=>
   simp only [fc,and_eq_true,all_eq_true] at hk
   congr 1
   apply Array.ext
   ·exact hs.symm
   ·intro i h1 h2
    exact ints (hk.2 xs[i] (by simp)).1 (fJ i _ _ (getElem?_eq_getElem h2) (getElem?_eq_getElem h1))
  | int _=>simp [fc,kh] at hk
  | str=>simp [fc] at hk
 | _=>cases g <;> simp [fc,kh] at hk
theorem aC5 (H:aZ P ρ h w) {t kt et:TypeId} {g:fR} {ok:Bool} {z m m' k k' v:Value} (hg:rr P t=some g) (ht:P.underlying t=some (.map kt et)) (hz:Lg P et=some z)
  (hi:zv g ok z h m k=some v) (hm:ax ρ m m') (jv:ax ρ k k'):∃v',(Instr.lookup t m' k' ok).run P w=.ok v' w∧ax ρ v v':=by
 obtain ⟨kt',et',Rf,L⟩:=Ik hg
 rw [ht] at Rf
 cases Rf
 unfold zv at hi
 split at hi
 ·rename_i i
  cases hm with
  | map hr=>
   rename_i r
   split at hi
   ·rename_i g' c es he
    split at hi
    ·rename_i oR
     obtain ⟨rfl,hk⟩:=oR
     rw [jv.key hk]
     have alr:∀{aJ:Array MapEntry} {clock:Nat},w.heap[r.bw]?=some (.map aJ clock)→(getObj r.bw).run P w=.ok (.map aJ clock) w:=by
      intro aJ clock hb
      simp [getObj,Sem.run,hb]
     obtain ⟨aJ,hb,E⟩:=H.AY hr he
     obtain ⟨pM,ov⟩:=aEM hz
     rcases UC (w:=w) L E hk with ⟨⟨e1,_⟩,e2⟩ | ⟨j,b,u,en,e1,e2,e3,e4,e5,e6,e7⟩
     ·have:rl k es=none:=by simp [rl,e1]
      rw [this] at hi
      simp at hi
      have gu:(Instr.lookup t (.map (some r.bw)) k ok).run P w=.ok (if ok then .tuple #[z,.bool false] else z) w:=by
       simp [Instr.lookup,run_underlying ht,alr hb,L.check w _ k hk,e2,pM]
      refine ⟨_,gu,?_⟩
      subst hi
      cases ok
      ·exact Aq.rel ov
      ·exact ax.rU (.cons (Aq.rel ov) (.cons (.bool _) .nil))
     ·have:rl k es=some u:=by simp [rl,e1,e2]
      rw [this] at hi
      simp at hi
      have gu:(Instr.lookup t (.map (some r.bw)) k ok).run P w=.ok (if ok then .tuple #[en.val,.bool true] else en.val) w:=by
       simp [Instr.lookup,run_underlying ht,alr hb,L.check w _ k hk,e7]
      refine ⟨_,gu,?_⟩
      subst hi
      cases ok
      ·exact e6
      ·exact ax.rU (.cons e6 (.cons (.bool _) .nil))
    ·cases hi
   ·cases hi
 ·cases hi
end
end
section
inductive mI (ρ:aK):List (ByteArray×Value)→List MapEntry→Prop
 | nil:mI ρ [] []
 | cons {k:ByteArray} {v:Value} {en:MapEntry} {es:List (ByteArray×Value)} {aJ:List MapEntry}:en.key=.string k→ax ρ v en.val→mI ρ es aJ→mI ρ ((k,v)::es) (en::aJ)
theorem mI.of {ρ:aK}:∀{es:List (ByteArray×Value)} {aJ:List MapEntry},aJ.length=es.length→
  (∀(j:Nat) (k:ByteArray) (v:Value),es[j]?=some (k,v)→∃en,aJ[j]?=some en∧en.key=.string k∧ax ρ v en.val)→mI ρ es aJ
 | [],[],_,_=>.nil
 | (k,v)::es,en::aJ,hl,h=>by
  obtain ⟨en',h1,h2,h3⟩:=h 0 k v rfl
  simp at h1;subst h1
  exact .cons h2 h3 (mI.of (by simpa using hl) fun j k' v' hj=>by simpa using h (j+1) k' v' (by simpa using hj))
theorem mI.to {ρ:aK} {es:List (ByteArray×Value)} {aJ:List MapEntry} (h:mI ρ es aJ):
  aJ.length=es.length∧∀(j:Nat) (k:ByteArray) (v:Value),es[j]?=some (k,v)→∃en,aJ[j]?=some en∧en.key=.string k∧ax ρ v en.val:=by
 induction h with
 | nil=>exact ⟨rfl,fun j k v hj=>by simp at hj⟩
 | cons h1 h2 _ ih=>
  refine ⟨by simp [ih.1],?_⟩
  intro j k v hj
  cases j with
  | zero=>simp at hj;obtain ⟨rfl,rfl⟩:=hj;exact ⟨_,rfl,h1,h2⟩
  | succ j=>simp at hj;simpa using ih.2 j k v hj
theorem mI.mono {ρ av:aK} (hle:ρ.le av) {es:List (ByteArray×Value)} {aJ:List MapEntry} (h:mI ρ es aJ):mI av es aJ:=by
 induction h with
 | nil=>exact .nil
 | cons h1 h2 _ ih=>exact .cons h1 (h2.mono hle) ih
theorem au3 {ρ:aK} {es:List (ByteArray×Value)} {aJ:List MapEntry} (h:mI ρ es aJ) (k:ByteArray):∀i:Nat,
  (uT k es=none∧Instr.findNow .string (.string k) aJ i=some none)∨
  (∃v v' j,uT k es=some v∧Instr.findNow .string (.string k) aJ i=some (some (i+j,v'))∧ax ρ v v'∧(∃en,aJ[j]?=some en∧en.key=.string k)):=by
 induction h with
 | nil=>intro i;exact .inl ⟨rfl,rfl⟩
 | cons h1 h2 _ ih=>
  rename_i k0 v0 en es aJ _
  intro i
  by_cases hk:k=k0
  ·subst hk
   refine .inr ⟨v0,en.val,0,by simp [uT],?_,h2,en,rfl,h1⟩
   have hb:(k==k)=true:=(MapKept.bytes_beq k k).2 rfl
   simp [Instr.findNow,h1,Instr.sameNow,hb]
  ·have hb:(k==k0)=false:=by
    rw [Bool.eq_false_iff]
    exact fun e=>hk ((MapKept.bytes_beq k k0).1 e)
   rcases ih (i+1) with ⟨e1,e2⟩ | ⟨v,v',j,e1,e2,e3,e4⟩
   ·refine .inl ⟨by simp [uT,hk,e1],?_⟩
    simp [Instr.findNow,h1,Instr.sameNow,hb,e2]
   ·refine .inr ⟨v,v',j+1,by simp [uT,hk,e1],?_,e3,?_⟩
    ·simp [Instr.findNow,h1,Instr.sameNow,hb,e2];omega
    ·simpa using e4
inductive mJ (kd:IntKind) (ρ:aK):List (Int×Value)→List MapEntry→Prop
 | nil:mJ kd ρ [] []
 | cons {k:Int} {v:Value} {en:MapEntry} {es:List (Int×Value)} {aJ:List MapEntry}:en.key=.int kd k→ax ρ v en.val→mJ kd ρ es aJ→mJ kd ρ ((k,v)::es) (en::aJ)
theorem mJ.of {kd:IntKind} {ρ:aK}:∀{es:List (Int×Value)} {aJ:List MapEntry},aJ.length=es.length→
  (∀(j:Nat) (k:Int) (v:Value),es[j]?=some (k,v)→∃en,aJ[j]?=some en∧en.key=.int kd k∧ax ρ v en.val)→mJ kd ρ es aJ
 | [],[],_,_=>.nil
 | (k,v)::es,en::aJ,hl,h=>by
  obtain ⟨en',h1,h2,h3⟩:=h 0 k v rfl
  simp at h1;subst h1
  exact .cons h2 h3 (mJ.of (by simpa using hl) fun j k' v' hj=>by simpa using h (j+1) k' v' (by simpa using hj))
theorem mJ.to {kd:IntKind} {ρ:aK} {es:List (Int×Value)} {aJ:List MapEntry} (h:mJ kd ρ es aJ):
  aJ.length=es.length∧∀(j:Nat) (k:Int) (v:Value),es[j]?=some (k,v)→∃en,aJ[j]?=some en∧en.key=.int kd k∧ax ρ v en.val:=by
 induction h with
 | nil=>exact ⟨rfl,fun j k v hj=>by simp at hj⟩
 | cons h1 h2 _ ih=>
  refine ⟨by simp [ih.1],?_⟩
  intro j k v hj
  cases j with
  | zero=>simp at hj;obtain ⟨rfl,rfl⟩:=hj;exact ⟨_,rfl,h1,h2⟩
  | succ j=>simp at hj;simpa using ih.2 j k v hj
theorem mJ.mono {kd:IntKind} {ρ av:aK} (hle:ρ.le av) {es:List (Int×Value)} {aJ:List MapEntry} (h:mJ kd ρ es aJ):mJ kd av es aJ:=by
 induction h with
 | nil=>exact .nil
 | cons h1 h2 _ ih=>exact .cons h1 (h2.mono hle) ih
theorem au4 {kd:IntKind} {ρ:aK} {es:List (Int×Value)} {aJ:List MapEntry} (h:mJ kd ρ es aJ) (k:Int):∀i:Nat,
  (oM k es=none∧Instr.findNow (.int kd) (.int kd k) aJ i=some none)∨
  (∃v v' j,oM k es=some v∧Instr.findNow (.int kd) (.int kd k) aJ i=some (some (i+j,v'))∧ax ρ v v'∧(∃en,aJ[j]?=some en∧en.key=.int kd k)):=by
 induction h with
 | nil=>intro i;exact .inl ⟨rfl,rfl⟩
 | cons h1 h2 _ ih=>
  rename_i k0 v0 en es aJ _
  intro i
  by_cases hk:k=k0
  ·subst hk
   refine .inr ⟨v0,en.val,0,by simp [oM],?_,h2,en,rfl,h1⟩
   have hb:(k==k)=true:=beq_self_eq_true k
   simp [Instr.findNow,h1,Instr.sameNow]
  ·have hb:(k==k0)=false:=by
    exact beq_false_of_ne hk
   rcases ih (i+1) with ⟨e1,e2⟩ | ⟨v,v',j,e1,e2,e3,e4⟩
   ·refine .inl ⟨by simp [oM,hk,e1],?_⟩
    simp [Instr.findNow,h1,Instr.sameNow,hb,e2]
   ·refine .inr ⟨v,v',j+1,by simp [oM,hk,e1],?_,e3,?_⟩
    ·simp [Instr.findNow,h1,Instr.sameNow,hb,e2];omega
    ·simpa using e4
section
variable {P : Program} {w : World} {ρ : aK} {h : ae}
theorem aeH {t:TypeId} (h:isString P t=true):P.underlying t=some .string:=by
 unfold isString at h
 split at h
 ·assumption
 ·cases h
theorem run_checkKey (b:Bool) {kt:TypeId} (hk:P.underlying kt=some .string) (k:ByteArray):(Instr.checkKey b 10000 kt (.string k)).run P w=.ok () w:=by
 rw [show (10000:Nat)=9999+1 from rfl,Instr.checkKey]
 simp [run_underlying hk]
theorem run_findKey {kt:TypeId} (hk:P.underlying kt=some .string) (k:ByteArray) (aJ:List MapEntry) {r:Option (Nat×Value)} (hr:Instr.findNow .string (.string k) aJ 0=some r):
  (Instr.findKey kt (.string k) aJ).run P w=.ok r w:=by
 simp [Instr.findKey,run_underlying hk,hr]
theorem Kw (b:Bool) {kt:TypeId} {kd:IntKind} (hk:P.underlying kt=some (.int kd)) (k:Int):(Instr.checkKey b 10000 kt (.int kd k)).run P w=.ok () w:=by
 rw [show (10000:Nat)=9999+1 from rfl,Instr.checkKey]
 simp [run_underlying hk]
theorem Kx {kt:TypeId} {kd:IntKind} (hk:P.underlying kt=some (.int kd)) (k:Int) (aJ:List MapEntry) {r:Option (Nat×Value)} (hr:Instr.findNow (.int kd) (.int kd k) aJ 0=some r):
  (Instr.findKey kt (.int kd k) aJ).run P w=.ok r w:=by
 simp [Instr.findKey,run_underlying hk,hr]
theorem aZ.aJ (H:aZ P ρ h w) {i:Nat} {r:RI} {es:List (ByteArray×Value)} (hi:ρ i=some r) (he:h[i]?=some (.smap es)):
  ∃aJ clock,w.heap[r.bw]?=some (.map aJ clock)∧mI ρ es aJ.toList:=by
 obtain ⟨o,ho,hr⟩:=H.obj i r hi
 rw [he] at ho
 cases ho
 obtain ⟨aJ,clock,h1,h2,h3⟩:=hr
 exact ⟨aJ,clock,h1,mI.of (by simpa using h2) (by simpa using h3)⟩
theorem aZ.acg (H:aZ P ρ h w) {i:Nat} {r:RI} {kd:IntKind} {es:List (Int×Value)} (hi:ρ i=some r) (he:h[i]?=some (.kH kd es)):
  ∃aJ clock,w.heap[r.bw]?=some (.map aJ clock)∧mJ kd ρ es aJ.toList:=by
 obtain ⟨o,ho,hr⟩:=H.obj i r hi
 rw [he] at ho
 cases ho
 obtain ⟨aJ,clock,h1,h2,h3⟩:=hr
 exact ⟨aJ,clock,h1,mJ.of (by simpa using h2) (by simpa using h3)⟩
theorem run_getObj_map {b:Nat} {aJ:Array MapEntry} {clock:Nat} (hb:w.heap[b]?=some (.map aJ clock)):(getObj b).run P w=.ok (.map aJ clock) w:=by
 simp [getObj,Sem.run,hb]
theorem amj {t:TypeId} {z:Value} (hz:Cu P t=some z):(∀w,(zeroValue t).run P w=.ok z w)∧me z=true:=by
 unfold Cu at hz
 split at hz
 ·rename_i i hi
  split at hz
  ·rename_i z' rK
   split at hz
   ·rename_i hc
    simp at hz;subst hz
    simp [AQ] at hc
    exact ⟨fun w=>Ae w hi rK,hc.1⟩
   ·cases hz
  ·cases hz
 ·cases hz
theorem aC4 (H:aZ P ρ h w) {t kt et:TypeId} {ok:Bool} {z m m' k k' v:Value} (ht:P.underlying t=some (.map kt et)) (hk:isString P kt=true) (hz:Cu P et=some z)
  (hi:I2 ok z h m k=some v) (hm:ax ρ m m') (jv:ax ρ k k'):∃v',(Instr.lookup t m' k' ok).run P w=.ok v' w∧ax ρ v v':=by
 unfold I2 at hi
 split at hi
 ·rename_i i key
  rw [jv.we]
  cases hm with
  | map hr=>
   rename_i r
   split at hi
   ·rename_i es he
    obtain ⟨aJ,clock,hb,yL⟩:=H.aJ hr he
    obtain ⟨pM,ov⟩:=amj hz
    have mj:=aeH hk
    rcases au3 yL key 0 with ⟨e1,e2⟩ | ⟨u,u',j,e1,e2,e3,_⟩
    ·rw [e1] at hi
     simp at hi
     have gu:(Instr.lookup t (.map (some r.bw)) (.string key) ok).run P w=.ok (if ok then .tuple #[z,.bool false] else z) w:=by
      simp [Instr.lookup,run_underlying ht,run_getObj_map hb,run_checkKey _ mj,run_findKey mj key _ e2,pM]
     refine ⟨_,gu,?_⟩
     subst hi
     cases ok
     ·exact me.rel ov
     ·exact ax.rU (.cons (me.rel ov) (.cons (.bool _) .nil))
    ·rw [e1] at hi
     simp at hi
     have gu:(Instr.lookup t (.map (some r.bw)) (.string key) ok).run P w=.ok (if ok then .tuple #[u',.bool true] else u') w:=by
      simp [Instr.lookup,run_underlying ht,run_getObj_map hb,run_checkKey _ mj,run_findKey mj key _ e2]
     refine ⟨_,gu,?_⟩
     subst hi
     cases ok
     ·exact e3
     ·exact ax.rU (.cons e3 (.cons (.bool _) .nil))
   ·cases hi
 ·cases hi
theorem aeE {t:TypeId} {kd:IntKind} (h:zB P t=some kd):P.underlying t=some (.int kd):=by
 unfold zB at h
 split at h
 ·simp at h;subst h;assumption
 ·cases h
theorem aC6 (H:aZ P ρ h w) {t kt et:TypeId} {kd:IntKind} {ok:Bool} {z m m' k k' v:Value} (ht:P.underlying t=some (.map kt et)) (hk:zB P kt=some kd) (hz:Cu P et=some z)
  (hi:I3 kd ok z h m k=some v) (hm:ax ρ m m') (jv:ax ρ k k'):∃v',(Instr.lookup t m' k' ok).run P w=.ok v' w∧ax ρ v v':=by
 unfold I3 at hi
 split at hi
 ·rename_i i BM key
  rw [jv.mw]
  cases hm with
  | map hr=>
   rename_i r
   split at hi
   ·rename_i nD es he
    split at hi
    ·rename_i oR
     obtain ⟨rfl,rfl⟩:=oR
     obtain ⟨aJ,clock,hb,yL⟩:=H.acg hr he
     obtain ⟨pM,ov⟩:=amj hz
     have mj:=aeE hk
     rcases au4 yL key 0 with ⟨e1,e2⟩ | ⟨u,u',j,e1,e2,e3,_⟩
     ·rw [e1] at hi
      simp at hi
      have gu:(Instr.lookup t (.map (some r.bw)) (.int nD key) ok).run P w=.ok (if ok then .tuple #[z,.bool false] else z) w:=by
       simp [Instr.lookup,run_underlying ht,run_getObj_map hb,Kw _ mj,Kx mj key _ e2,pM]
      refine ⟨_,gu,?_⟩
      subst hi
      cases ok
      ·exact me.rel ov
      ·exact ax.rU (.cons (me.rel ov) (.cons (.bool _) .nil))
     ·rw [e1] at hi
      simp at hi
      have gu:(Instr.lookup t (.map (some r.bw)) (.int nD key) ok).run P w=.ok (if ok then .tuple #[u',.bool true] else u') w:=by
       simp [Instr.lookup,run_underlying ht,run_getObj_map hb,Kw _ mj,Kx mj key _ e2]
      refine ⟨_,gu,?_⟩
      subst hi
      cases ok
      ·exact e3
      ·exact ax.rU (.cons e3 (.cons (.bool _) .nil))
    ·cases hi
   ·cases hi
 ·cases hi
theorem ayh {o:Oper} {lo:pe} {g g':Operand→Value} (hc:uN P o.op=some lo) (aG:o.op.operands.all jy=true) (H:aZ P ρ h w)
  (hg:∀x,jy x=true→ax ρ (g x) (g' x)) {v:Value} (hi:fF lo g h=some v):∃v',(execOp g' o).run P w=.ok (.value v') w∧ax ρ v v':=by
 cases ho:o.op with
 | load t a=>
  rw [ho] at hc aG
  simp [Op.operands] at aG
  simp only [uN] at hc
  split at hc
  ·rename_i d ht
   split at hc
   ·rename_i hk
    simp at hc;subst hc
    simp only [and_eq_true] at hk
    obtain ⟨v',h1,h2⟩:=alv H ht hk.1 hi (hg a aG)
    exact ⟨v',by simp [execOp,ho,h1],h2⟩
   ·cases hc
  ·cases hc
 | entry it=>
  rw [ho] at hc aG
  simp [Op.operands] at aG
  simp [uN] at hc;subst hc
  obtain ⟨v',h1,h2⟩:=aCX H hi (hg it aG)
  exact ⟨v',by simp [execOp,ho,h1],h2⟩
 | convert s d x=>
  rw [ho] at hc aG
  simp [Op.operands] at aG
  simp only [uN] at hc
  split at hc
  ·rename_i e hs hd
   split at hc
   ·rename_i he
    simp at hc;subst hc
    have hx:=hg x aG
    obtain ⟨h1,h2⟩:=aCQ H hi hx
    refine ⟨v,?_,h2⟩
    have:(convert s d (g' x)).run P w=.ok v w:=by
     simp only [fF,rL,bind_eq_some_iff] at hi
     obtain ⟨cs,qm,_⟩:=hi
     rcases KH H qm hx with ⟨e1,_⟩ | ⟨b,o',n,c',e1,_⟩
     ·rw [e1] at h1⊢;rw [run_convert_bytes_string w s d e _ _ _ hs he hd];exact h1
     ·rw [e1] at h1⊢;rw [run_convert_bytes_string w s d e _ _ _ hs he hd];exact h1
    simp [execOp,ho,this]
   ·cases hc
  ·cases hc
 | lookup t m k ok=>
  rw [ho] at hc aG
  simp [Op.operands] at aG
  simp only [uN] at hc
  split at hc
  ·rename_i g kD
   split at hc
   ·rename_i kt et ht
    simp only [map_eq_some_iff] at hc
    obtain ⟨z,hz,rfl⟩:=hc
    obtain ⟨v',h1,h2⟩:=aC5 H kD ht hz hi (hg m aG.1) (hg k aG.2)
    exact ⟨v',by simp [execOp,ho,h1],h2⟩
   ·cases hc
  split at hc
  ·rename_i kt et ht
   split at hc
   ·rename_i hk
    simp only [map_eq_some_iff] at hc
    obtain ⟨z,hz,rfl⟩:=hc
    obtain ⟨v',h1,h2⟩:=aC4 H ht hk hz hi (hg m aG.1) (hg k aG.2)
    exact ⟨v',by simp [execOp,ho,h1],h2⟩
   ·simp only [bind_eq_some_iff,map_eq_some_iff] at hc
    obtain ⟨kd,oR,z,hz,rfl⟩:=hc
    obtain ⟨v',h1,h2⟩:=aC6 H ht oR hz hi (hg m aG.1) (hg k aG.2)
    exact ⟨v',by simp [execOp,ho,h1],h2⟩
  ·cases hc
 | _=>rw [ho] at hc;simp [uN] at hc
end
end
section
theorem KB {xs:List Value} {o:Nat} {vs:List Value} (h:o+vs.length≤xs.length) (j:Nat):
  (setAt xs o vs)[j]?=if j<o then xs[j]? else if j<o+vs.length then vs[j-o]? else xs[j]?:=by
 have hl:(xs.take o).length=o:=by simp;omega
 unfold setAt
 by_cases h1:j<o
 ·rw [if_pos h1,List.append_assoc,getElem?_append_left (by omega),List.getElem?_take,if_pos h1]
 ·rw [if_neg h1]
  by_cases h2:j<o+vs.length
  ·rw [if_pos h2,List.append_assoc,List.getElem?_append_right (by omega),hl,getElem?_append_left (by omega)]
  ·rw [if_neg h2,List.getElem?_append_right (by simp;omega),List.getElem?_drop]
   congr 1
   simp
   omega
theorem UP {xs:List Value} {o:Nat} {vs:List Value} (h:o+vs.length≤xs.length):(setAt xs o vs).length=xs.length:=by
 unfold setAt
 simp
 omega
theorem fX.le {ρ:aK} {c:Array Value} {xs:List Value} (h:fX ρ c 0 xs):xs.length≤c.size:=by
 rcases Nat.eq_zero_or_pos xs.length with hz | hz
 ·omega
 ·have hx:xs[xs.length-1]?=some (xs[xs.length-1]'(by omega)):=List.getElem?_eq_getElem _
  obtain ⟨_,y,hy,_⟩:=h _ _ hx
  have:=(Array.getElem?_eq_some_iff.1 hy).1
  omega
theorem fX.put {ρ:aK} {c:Array Value} {xs:List Value} {o:Nat} {vs jG:List Value} (h:fX ρ c 0 xs) (hv:bF ρ vs jG) (h1:∀x∈vs,gy x=true) (hl:o+vs.length≤xs.length):
  fX ρ (setAt c.toList o jG).toArray 0 (setAt xs o vs):=by
 intro j x hj
 have fT:=h.le
 have hlen:=hv.length
 rw [KB hl] at hj
 have e:(setAt c.toList o jG).toArray[0+j]?=if j<o then c.toList[j]? else if j<o+jG.length then jG[j-o]? else c.toList[j]?:=by
  rw [zero_add,List.getElem?_toArray,KB (by simp;omega)]
 rw [e]
 by_cases A7:j<o
 ·rw [if_pos A7] at hj⊢
  obtain ⟨q1,y,q2,q3⟩:=h j x hj
  exact ⟨q1,y,by simpa using q2,q3⟩
 ·rw [if_neg A7] at hj⊢
  by_cases h2:j<o+vs.length
  ·rw [if_pos h2] at hj
   rw [if_pos (by omega)]
   obtain ⟨y,q2,q3⟩:=hv.get hj
   exact ⟨h1 x (mem_of_getElem? hj),y,q2,q3⟩
  ·rw [if_neg h2] at hj
   rw [if_neg (by omega)]
   obtain ⟨q1,y,q2,q3⟩:=h j x hj
   exact ⟨q1,y,by simpa using q2,q3⟩
theorem acu (z:List Value) (n:Nat):∀(j:Nat),j<n*z.length→(List.replicate n z).flatten[j]?=z[j%z.length]?:=by
 induction n with
 | zero=>intro j hj;simp at hj
 | succ n ih=>
  intro j hj
  rw [List.replicate_succ,List.flatten_cons]
  by_cases h:j<z.length
  ·rw [getElem?_append_left h,Nat.mod_eq_of_lt h]
  ·have e:j%z.length=(j-z.length)%z.length:=by rw [Nat.mod_eq_sub_mod (by omega)]
   rw [List.getElem?_append_right (by omega),ih _ (by rw [add_mul] at hj;omega),e]
theorem VJ (z:List Value) (n:Nat):(iO z n).length=n*z.length:=by
 induction n with
 | zero=>simp [iO]
 | succ n ih=>simp only [iO,List.replicate_succ,List.flatten_cons,List.length_append] at ih⊢;rw [ih,add_mul];omega
theorem amk {z:List Value} {n:Nat} {p:Value→Prop} (h:∀x∈z,p x):∀x∈iO z n,p x:=by
 intro x hx
 simp only [iO,List.mem_flatten,List.mem_replicate] at hx
 obtain ⟨l,⟨_,rfl⟩,hm⟩:=hx
 exact h x hm
theorem aff (z:Array Value) (m j:Nat) (hj:j<m) (hz:0<z.size):(madeCells z m)[j]?=z[j%z.size]?:=by
 have aD:j%z.size<z.size:=Nat.mod_lt _ hz
 simp [madeCells,hj,aD]
theorem ayj (z:Value) (n k:Nat) (hk:(de z).length=k):((Array.range (n*k)).map (z.cells[·%z.cells.size]!)).toList=iO (de z) n:=by
 have hs:z.cells.size=k:=by rw [←hk];simp [de]
 apply List.ext_getElem?
 intro j
 by_cases hj:j<n*k
 ·have hz:0<z.cells.size:=by
   rcases Nat.eq_zero_or_pos k with h | h
   ·subst h;simp at hj
   ·omega
  have:=aff z.cells (n*k) j hj hz
  simp only [madeCells] at this
  rw [getElem?_toList,this,iO,acu _ _ _ (by rw [hk];exact hj)]
  simp [de]
 ·rw [List.getElem?_eq_none (by simp;omega),List.getElem?_eq_none (by rw [VJ,hk];omega)]
section
variable {P : Program} {w : World} {ρ : aK} {h : ae}
def j5 (P:Program) (ρ:aK) (h:ae) (w:World) (v:Value) (h':ae) (s:Result Next):Prop:=
 ∃nx w' av v',s=.ok nx w'∧(nx=.value v'∨(nx=.skip∧v'=undef))∧ax av v v'∧aZ P av h' w'∧Tr ρ h w av h' w'
theorem aZ.arr (H:aZ P ρ h w) {i:Nat} {r:RI} {e:TypeId} {xs:List Value} (hi:ρ i=some r) (hx:h[i]?=some (.arr e xs)):
  r.elem=e∧r.sh=0∧∃c,w.heap[r.bw]?=some (.cells c e (0,0))∧c.size=r.size∧fX ρ c 0 xs:=by
 obtain ⟨o,ho,hr⟩:=H.obj i r hi
 rw [hx] at ho
 cases ho
 exact hr
theorem aDg (H:aZ P ρ h w) {t:TypeId} {a a' v v':Value} {h':ae} (hk:iI P t=true) (hi:vK (P.cellsOf t) h a v=some h') (ha:ax ρ a a') (hv:ax ρ v v'):
  ∃w',(Instr.storeAt t a' v').run P w=.ok () w'∧aZ P ρ h' w'∧Tr ρ h w ρ h' w':=by
 unfold vK at hi
 split at hi
 ·rename_i i o
  obtain ⟨r,hr,rfl⟩:=ha.E2
  split at hi
  ·rename_i e xs hx
   split at hi
   ·rename_i hc
    obtain ⟨om,hl,hle⟩:=hc
    simp at hi;subst hi
    obtain ⟨h1,h2,c,h3,h4,h5⟩:=H.arr hr hx
    have BD:=hv.cells om
    have lH:(de v').length=P.cellsOf t:=by rw [←BD.length];exact hl
    have bD:=run_storeCells_at P r.bw o e (de v') 0 c w h3 (by have:=h5.le;simp;omega) (BD.EG (hv.Hz om))
    have heq:(c.toList.take (o+0)++de v'++c.toList.drop (o+0+(de v').length)).toArray=(setAt c.toList o (de v')).toArray:=by simp [setAt]
    rw [heq] at bD
    have jj:cB h i:=.inl ⟨e,xs,hx⟩
    obtain ⟨q1,q2⟩:=H.set (o:=.arr e (setAt xs o (de v))) hr jj (mK.row h3 (setAt c.toList o (de v')).toArray)
     ⟨h1,h2,_,(mK.row h3 _).here,by simp [UP (show o+(de v').length≤c.toList.length by have:=h5.le;simp;omega),h4],h5.put BD (hv.Hz om) (by omega)⟩
    refine ⟨_,?_,q1,q2⟩
    have jw:v'.cells.size=P.cellsOf t:=by rw [←lH];simp [de]
    have awG:(storeCells ⟨r.bw,r.sh+o,none⟩ v'.cells.toList).run P w=.ok () (w.setRow r.bw (setAt c.toList o (de v')).toArray):=by
     rw [h2,zero_add]
     exact bD
    simp [Instr.storeAt,Instr.sureAddr,storeVar,qU w hk,jw,awG]
   ·cases hi
  ·cases hi
 ·cases hi
theorem EA (H:aZ P ρ h w) {w':World} {e:TypeId} {c:Array Value} {xs:List Value} (nb:jM w (.cells c e) w') (hc:fX ρ c 0 xs):
  aZ P (ρ.add h.length ⟨w.heap.size,0,e,P.cellsOf e,c.size⟩) (h++[.arr e xs]) w'∧Tr ρ h w (ρ.add h.length ⟨w.heap.size,0,e,P.cellsOf e,c.size⟩) (h++[.arr e xs]) w':=
 H.new nb rfl rfl rfl (fun _=>.inl rfl) ⟨rfl,rfl,c,nb.new,rfl,hc.mono (aK.vR H.none)⟩
theorem AJ (ρ:aK) (i:Nat) (r:RI):ρ.add i r i=some r:=by simp [aK.add]
theorem afJ (ρ:aK) (h:ae) (r:RI) (hs:r.sh=0):ax (ρ.add h.length r) (BT h) (.pointer (some ⟨r.bw,0,none⟩)):=by
 have:=ax.ptr (ρ:=ρ.add h.length r) (i:=h.length) (o:=0) (AJ _ _ _)
 rw [hs] at this
 exact this
theorem Fc (ρ:aK) (i:Nat) (r:RI) (hs:r.sh=0) {n c':Nat} (hn:n≤c') (hc:c'≤maxLen) (hb:c'*r.aX≤r.size):ax (ρ.add i r) (sl r.elem i 0 n) (.slice (some ⟨r.bw,0,none⟩) n c'):=
 ax.slice (AJ _ _ _) (.inl (by omega)) hn hc (by omega)
theorem aCS (H:aZ P ρ h w) {e:TypeId} {x x' v:Value} {h':ae} (hi:bm e h x=some (v,h')) (hx:ax ρ x x'):
  ∃w' av v',(Instr.box e x').run P w=.ok v' w'∧ax av v v'∧aZ P av h' w'∧Tr ρ h w av h' w':=by
 unfold bm at hi
 split at hi
 ·rename_i om
  simp at hi
  obtain ⟨rfl,rfl⟩:=hi
  have hc:fX ρ x'.cells 0 (de x):=fX.of (hx.cells om) (hx.Hz om)
  obtain ⟨q1,q2⟩:=EA H (jM.alloc w (.cells x'.cells e)) hc
  exact ⟨_,_,_,by simp [Instr.box,newVar,newRow],afJ _ _ _ rfl,q1,q2⟩
 ·cases hi
theorem aCO (H:aZ P ρ h w) {e:TypeId} {zs:List Value} (hz:zeroOf P e=some zs):
  ∃w' av v',(Instr.alloc e true (.tuple #[])).run P w=.ok v' w'∧ax av (BT h) v'∧aZ P av (h++[.arr e zs]) w'∧Tr ρ h w av (h++[.arr e zs]) w':=by
 obtain ⟨i,z,hi,qF,rfl,om,fT,hlen⟩:=Cv hz
 have hc:fX ρ z.cells 0 (de z):=fX.of (bF.closed fun x hx=>(fT x hx).1) (fun x hx=>(fT x hx).2)
 obtain ⟨q1,q2⟩:=EA H (jM.alloc w (.cells z.cells e)) hc
 exact ⟨_,_,_,by simp [Instr.alloc,Ae w hi qF,newVar,newRow],afJ _ _ _ rfl,q1,q2⟩
theorem O8 {t:TypeId} {i:TypeInfo} (hi:P.info? t=some i):P.cellsOf t=i.size:=by simp [Program.cellsOf,hi]
theorem Yx {t:TypeId} {i:TypeInfo} (hi:P.info? t=some i):P.bytesOf t=i.bytes:=by simp [Program.bytesOf,hi]
theorem aDb (H:aZ P ρ h w) {t e:TypeId} {n:Nat} {zs:List Value} {ps:List (Nat×Nat×Value)} {qs:Array (Nat×Value)} {v:Value} {h':ae} (ht:P.underlying t=some (.slice e)) (hz:zeroOf P e=some zs)
  (hn:n*P.cellsOf e≤16777216) (bp:P.cellsOf e≠0) (hp:uL ρ (fun i=>some (i*P.cellsOf e,P.cellsOf e)) ps qs.toList) (hi:dH e n zs h ps=some (v,h')):
  ∃w' av v',(Instr.buildSlice t n qs).run P w=.ok v' w'∧ax av v v'∧aZ P av h' w'∧Tr ρ h w av h' w':=by
 obtain ⟨i,z,og,qF,rfl,om,fT,hlen⟩:=Cv hz
 have hk:iI P e=true:=by simp [iI,og]
 have qk:=O8 og
 simp only [dH,map_eq_some_iff,Prod.mk.injEq] at hi
 obtain ⟨cs,hf,rfl,rfl⟩:=hi
 obtain ⟨zero,sP,hzl⟩:∃zero:Array Value,(if n*P.cellsOf e=0 then (Pure.pure #[]:Sem (Array Value)) else do pure (←zeroValue e).cells).run P w=.ok zero w∧
   ((Array.range (n*P.cellsOf e)).map (zero[·%zero.size]!)).toList=iO (de z) n:=by
  by_cases h0:n*P.cellsOf e=0
  ·refine ⟨#[],by simp [h0],?_⟩
   have oh:n=0:=by
    rcases Nat.mul_eq_zero.1 h0 with h | h
    ·exact h
    ·exact absurd h bp
   subst oh
   simp [iO,Array.range_zero']
  ·exact ⟨z.cells,by simp [h0,Ae w og qF],by rw [qk];exact ayj z n i.size hlen⟩
 have avA:bF ρ (iO (de z) n) (iO (de z) n):=bF.closed (amk fun x hx=>(fT x hx).1)
 obtain ⟨ju,Bm,hr,h1,pH⟩:=PK (ys:=(Array.range (n*P.cellsOf e)).map (zero[·%zero.size]!)) hp hf (by rw [hzl];exact avA) (amk fun x hx=>(fT x hx).2)
 obtain ⟨q1,q2⟩:=EA H (jM.alloc w (.cells ju e)) (fX.of hr h1)
 have jw:ju.size=n*P.cellsOf e:=by
  have:=hr.length
  rw [pH,VJ,hlen,←qk] at this
  simpa using this.symm
 have DV:n≤maxLen:=by
  have h1:1≤P.cellsOf e:=by omega
  have:=Nat.mul_le_mul_left n h1
  unfold maxLen
  omega
 refine ⟨_,_,.slice (some ⟨w.heap.size,0,none⟩) n n,?_,Fc ρ h.length ⟨w.heap.size,0,e,P.cellsOf e,ju.size⟩ rfl (le_refl _) DV (by simp [jw]),q1,q2⟩
 unfold Instr.buildSlice
 simp only [Sem.run_bind,run_underlying ht,Result.andThen_ok,qU w hk]
 have h24:¬(n*P.cellsOf e>2^24):=by rw [show (2^24:Nat)=16777216 from rfl];omega
 rw [if_neg h24]
 by_cases h0:n*P.cellsOf e=0
 ·rw [if_pos h0] at sP⊢
  simp only [Sem.run_pure,Result.ok.injEq,and_true] at sP
  subst sP
  simp only [Sem.run_bind,Sem.run_pure,Result.andThen_ok,Bm]
  simp [newRow]
 ·rw [if_neg h0] at sP⊢
  simp only [Sem.run_bind,Sem.run_pure] at sP⊢
  rw [Ae w og qF] at sP⊢
  simp only [Result.andThen_ok,Result.ok.injEq,and_true] at sP⊢
  subst sP
  rw [Bm]
  simp [newRow]
end
end
section
section
variable {P : Program} {w : World} {ρ : aK} {h : ae}
theorem aC7 (H:aZ P ρ h w) {t e:TypeId} {zs:List Value} {l c l' c' v:Value} {h':ae} (ht:P.underlying t=some (.slice e)) (hz:zeroOf P e=some zs)
  (hi:mV e (P.bytesOf e) zs h l c=some (v,h')) (hl:ax ρ l l') (hc:ax ρ c c'):
  ∃w' av v',(Instr.makeSlice t l' c').run P w=.ok v' w'∧ax av v v'∧aZ P av h' w'∧Tr ρ h w av h' w':=by
 obtain ⟨i,z,og,qF,rfl,om,fT,hlen⟩:=Cv hz
 unfold mV at hi
 split at hi
 ·rename_i k1 l k2 c
  rw [hl.mw,hc.mw]
  split at hi
  ·rename_i hb
   obtain ⟨h0,h1,h2,h3⟩:=hb
   simp at hi
   obtain ⟨rfl,rfl⟩:=hi
   rw [Yx og] at h2
   have gu:=run_make (P:=P) w t e i z ht og qF k1 k2 l c h0 h1 h2 h3
   have yE:fX ρ (madeCells z.cells (c.toNat*i.size)) 0 (iO (de z) l.toNat):=by
    intro j x hj
    have pG:j<l.toNat*i.size:=by
     have:=(bK hj).1
     rwa [VJ,hlen] at this
    have Rp:z.cells.size=i.size:=by rw [←hlen];simp [de]
    have jm:0<z.cells.size:=by
     rcases Nat.eq_zero_or_pos i.size with q | q
     ·rw [q] at pG;simp at pG
     ·omega
    have QP:l.toNat*i.size≤c.toNat*i.size:=Nat.mul_le_mul_right _ (by omega)
    rw [iO,acu _ _ _ (by rw [hlen];exact pG)] at hj
    have hx:x∈de z:=mem_of_getElem? hj
    refine ⟨(fT x hx).2,x,?_,me.rel (fT x hx).1⟩
    rw [zero_add,aff _ _ _ (by omega) jm]
    simpa [de] using hj
   obtain ⟨q1,q2⟩:=EA H (jM.alloc w (.cells (madeCells z.cells (c.toNat*i.size)) e)) yE
   refine ⟨_,_,_,gu,?_,q1,q2⟩
   exact Fc ρ h.length ⟨w.heap.size,0,e,P.cellsOf e,(madeCells z.cells (c.toNat*i.size)).size⟩ rfl (by omega) (by unfold maxLen;omega) (by simp [size_madeCells,O8 og])
  ·cases hi
 ·cases hi
theorem alq {t e:TypeId} {i:TypeInfo} (ht:P.underlying t=some (.slice e)) (hi:P.info? e=some i) (type:TypeId) (b:Option Addr) (n c:Nat) (x:Value) (hn:n≤c)
  (hx:x=.slice none 0 0∨∃a c2,x=.slice (some a) 0 c2):(Builtin.append_ #[t,t] type #[.slice b n c,x]).run P w=.ok (.slice b n c) w:=by
 rcases hx with rfl | ⟨a,c2,rfl⟩
 ·cases b <;> simp [Builtin.append_,run_underlying ht,sizeOf,typeInfo,hi,Builtin.lenOf,hn,Builtin.firstCells,storeCells]
 ·cases b <;> simp [Builtin.append_,run_underlying ht,sizeOf,typeInfo,hi,Builtin.lenOf,hn,Builtin.firstCells,loadCells,loadCellsFrom,storeCells]
theorem O9 {ρ:aK} {c:Array Value} {xs ys zs:List Value} (hx:∀(j:Nat) (x:Value),xs[j]?=some x→gy x=true∧∃y,c[j]?=some y∧ax ρ x y) (hz:bF ρ zs ys) (h1:∀x∈zs,gy x=true)
  (hc:∀(j:Nat) (y:Value),ys[j]?=some y→c[xs.length+j]?=some y):fX ρ c 0 (xs++zs):=by
 intro j x hj
 by_cases aD:j<xs.length
 ·rw [getElem?_append_left aD] at hj
  simpa using hx j x hj
 ·rw [List.getElem?_append_right (by omega)] at hj
  obtain ⟨y,hy,hr⟩:=hz.get hj
  refine ⟨h1 x (mem_of_getElem? hj),y,?_,hr⟩
  have:=hc _ y hy
  rw [←this]
  congr 1
  omega
theorem aCP (H:aZ P ρ h w) {t e:TypeId} {zs:List Value} {type:TypeId} {s x s' x' v:Value} {h':ae} (ht:P.underlying t=some (.slice e)) (hz:zeroOf P e=some zs)
  (hi:dT e (P.cellsOf e) (P.bytesOf e) h s x=some (v,h')) (hs:ax ρ s s') (hx:ax ρ x x'):
  ∃w' av v',(Builtin.append_ #[t,t] type #[s',x']).run P w=.ok v' w'∧ax av v v'∧aZ P av h' w'∧Tr ρ h w av h' w':=by
 obtain ⟨i,z,og,qF,rfl,om,fT,hlen⟩:=Cv hz
 have qk:=O8 og
 have hbe:=Yx og
 have Rp:z.cells.size=i.size:=by rw [←hlen];simp [de]
 unfold dT at hi
 split at hi
 ·rename_i news m hn hm
  have hxx:=KH H hn hx
  have sP:m=0→(x'=.slice none 0 0∨∃a c2,x'=.slice (some a) 0 c2):=by
   intro qq
   rcases hxx with ⟨e1,_⟩ | ⟨b,o,n2,c2,e1,e2,_⟩
   ·exact .inl e1
   ·rw [hm] at e2;cases e2;subst qq;exact .inr ⟨_,_,e1⟩
  have ad0:0<m→∃b o c2,x'=.slice (some ⟨b,o,none⟩) m c2∧news.length=m*i.size∧(∀v∈news,gy v=true)∧
    ∃ys,bF ρ news ys∧ys.length=m*i.size∧∀j v,ys[j]?=some v→w.cell? ((⟨b,o,none⟩:Addr).add j)=some v:=by
   intro qq
   rcases hxx with ⟨e1,e2⟩ | ⟨b,o,n2,c2,e1,e2,e3,e4,ys,e5,e6⟩
   ·subst e1
    cases hx
    ·simp [pP] at hm
     omega
    ·simp [pP] at hm
   ·rw [hm] at e2;cases e2
    refine ⟨b,o,c2,e1,by rw [e3,qk],e4,ys,e5,by rw [←e5.length,e3,qk],?_⟩
    intro j v hj
    rw [Addr.add_lit]
    exact e6 j v hj
  split at hi
  ·cases hs
   split at hi
   ·rename_i qq
    simp at hi
    obtain ⟨rfl,rfl⟩:=hi
    exact ⟨w,ρ,_,alq ht og type none 0 0 x' (le_refl _) (sP qq),.qO,H,Tr.refl H⟩
   ·rename_i qq
    split at hi
    ·rename_i hb
     obtain ⟨mP,DG⟩:=hb
     simp at hi
     obtain ⟨rfl,rfl⟩:=hi
     obtain ⟨b,o,c2,rfl,f1,f2,ys,f3,f4,f5⟩:=ad0 (by omega)
     have gu:=run_append_nil (P:=P) w t type e i z ht og qF ⟨b,o,none⟩ m c2 ys f4 f5 (by omega) (by unfold maxLen at DG;omega) (by rw [←hbe];omega)
     have cK:=grownCap_ge w m 0 e
     have yE:fX ρ (ys.toArray++Builtin.zeroCells z.cells (grownCap w m 0 e-m)) 0 news:=by
      have:=O9 (ρ:=ρ) (c:=ys.toArray++Builtin.zeroCells z.cells (grownCap w m 0 e-m)) (xs:=[]) (ys:=ys) (zs:=news) (by simp) f3 f2 (by
       intro j y hj
       have aD:=(bK hj).1
       rw [Array.getElem?_append_left (by simpa using aD)]
       simpa using hj)
      simpa using this
     obtain ⟨q1,q2⟩:=EA H (jM.drew w (.cells (ys.toArray++Builtin.zeroCells z.cells (grownCap w m 0 e-m)) e)) yE
     refine ⟨_,_,_,gu,?_,q1,q2⟩
     refine Fc ρ h.length ⟨w.heap.size,0,e,P.cellsOf e,(ys.toArray++Builtin.zeroCells z.cells (grownCap w m 0 e-m)).size⟩ rfl cK (grownCap_le_maxLen w m 0 e DG) ?_
     simp only [Array.size_append,List.size_toArray,size_zeroCells,f4,Rp,qk]
     rw [←add_mul]
     exact Nat.mul_le_mul_right _ (by omega)
    ·cases hi
  ·rename_i ii e' n cc
   split at hi
   ·rename_i e'' xs pL
    split at hi
    ·rename_i hb
     obtain ⟨rfl,rfl,hb3,hb4,hb5⟩:=hb
     have Rb:=hs
     cases hs with
     | slice hr ho hnc hcm Bc=>
      rename_i o' c' r
      obtain ⟨g1,g2,c,g3,g4,g5⟩:=H.arr hr pL
      obtain rfl:o'=0:=by
       rcases ho with ho | ⟨_,q,_⟩
       ·omega
       ·omega
      have iF:=H.aX _ _ hr
      split at hi
      ·rename_i qq
       simp at hi
       obtain ⟨rfl,rfl⟩:=hi
       exact ⟨w,ρ,_,alq ht og type _ n c' x' hnc (sP qq),Rb,H,Tr.refl H⟩
      ·rename_i qq
       simp at hi
       obtain ⟨rfl,rfl⟩:=hi
       obtain ⟨b,o,c2,rfl,f1,f2,ys,f3,f4,f5⟩:=ad0 (by omega)
       rw [qk] at hb3
       have Bl:r.aX=i.size:=by rw [iF,qk]
       have jj:cB h ii:=.inl ⟨_,xs,pL⟩
       by_cases Q8:n+m≤c'
       ·have IC:n*i.size+ys.length≤c.size:=by
         rw [f4,g4,←add_mul]
         have:=Nat.mul_le_mul_right i.size Q8
         rw [Bl] at Bc
         omega
        have gu:=run_append_room (P:=P) w t type r.elem i ht og r.bw n c' c g3 ⟨b,o,none⟩ m c2 ys f4 f5 (f3.EG f2) Q8 IC
        have qm:(c.toList.take (n*i.size)++ys++c.toList.drop (n*i.size+ys.length)).toArray=(setAt c.toList (n*i.size) ys).toArray:=rfl
        rw [qm] at gu
        have jw:(setAt c.toList (n*i.size) ys).toArray.size=c.size:=by simp [UP (show n*i.size+ys.length≤c.toList.length by simpa using IC)]
        have yE:fX ρ (setAt c.toList (n*i.size) ys).toArray 0 (xs++news):=by
         refine O9 (ys:=ys) ?_ f3 f2 ?_
         ·intro j x hj
          have aD:=(bK hj).1
          obtain ⟨k1,y,k2,k3⟩:=g5 j x hj
          refine ⟨k1,y,?_,k3⟩
          rw [List.getElem?_toArray,KB (by simpa using IC),if_pos (by omega)]
          simpa using k2
         ·intro j y hj
          have aD:=(bK hj).1
          rw [List.getElem?_toArray,KB (by simpa using IC),if_neg (by omega),if_pos (by omega)]
          rw [←hj]
          congr 1
          omega
        have sb:=mK.row g3 (setAt c.toList (n*i.size) ys).toArray
        obtain ⟨q1,q2⟩:=H.move (o:=.arr r.elem (xs++news)) hr jj sb ⟨rfl,g2,_,sb.here,by rw [jw,g4],yE.mono (aK.vR H.none)⟩
        refine ⟨_,_,_,gu,?_,q1,q2⟩
        exact Fc ρ h.length r g2 Q8 hcm (by omega)
       ·obtain ⟨SC,o1,o2,o3,o4⟩:=g5.Vq (o:=0) (n:=n*i.size) (by omega)
        have awL:(xs.drop 0).take (n*i.size)=xs:=by rw [List.drop_zero];exact List.take_of_length_le (by omega)
        rw [awL] at o1 o3
        have kU:∀j v,SC[j]?=some v→w.cell? ((⟨r.bw,0,none⟩:Addr).add j)=some v:=by
         intro j v hj
         rw [Addr.add_lit,Hy g3]
         simpa using o4 j v hj
        have adg:=growslice_fits (need:=n+m) (old:=c') (bytes:=P.bytesOf r.elem) (by omega) hb4
        rw [hbe] at adg
        have gu:=run_append_grow (P:=P) w t type r.elem i z ht og qF ⟨r.bw,0,none⟩ n c' SC o2 kU ⟨b,o,none⟩ m c2 ys f4 f5 (by omega) (by unfold maxLen at hb5;omega) adg
        have cK:=grownCap_ge w (n+m) c' r.elem
        generalize oc:SC.toArray++ys.toArray++Builtin.zeroCells z.cells (grownCap w (n+m) c' r.elem-(n+m))=cc at gu
        have avz:cc.size=n*i.size+m*i.size+(grownCap w (n+m) c' r.elem-(n+m))*i.size:=by
         rw [←oc];simp only [Array.size_append,List.size_toArray,size_zeroCells,o2,f4,Rp]
        have yE:fX ρ cc 0 (xs++news):=by
         refine O9 (ys:=ys) ?_ f3 f2 ?_
         ·intro j x hj
          have aD:=(bK hj).1
          obtain ⟨y,k2,k3⟩:=o1.get hj
          refine ⟨o3 x (mem_of_getElem? hj),y,?_,k3⟩
          rw [←oc,Array.append_assoc,Array.getElem?_append_left (by simp;omega)]
          simpa using k2
         ·intro j y hj
          have aD:=(bK hj).1
          rw [←oc,Array.append_assoc,Array.getElem?_append_right (by simp;omega),Array.getElem?_append_left (by simp;omega)]
          rw [←hj,List.getElem?_toArray]
          congr 1
          simp
          omega
        have nb:=jM.drew w (.cells cc r.elem)
        obtain ⟨q1,q2⟩:=H.new (h₀:=h.set ii .dead) (o:=.arr r.elem (xs++news)) (r:=⟨w.heap.size,0,r.elem,P.cellsOf r.elem,cc.size⟩) nb rfl rfl (by simp) (by
          intro j
          by_cases hj:j=ii
          ·subst hj;right;rw [List.getElem?_set_self (H.lt hr)]
          ·left;rw [getElem?_set_ne (Ne.symm hj)]) ⟨rfl,rfl,cc,nb.new,rfl,yE.mono (aK.vR H.none)⟩
        refine ⟨_,_,_,gu,?_,q1,q2⟩
        refine Fc ρ h.length ⟨w.heap.size,0,r.elem,P.cellsOf r.elem,cc.size⟩ rfl cK (grownCap_le_maxLen w (n+m) c' r.elem hb5) ?_
        simp only [avz,qk]
        rw [←add_mul,←add_mul]
        exact Nat.mul_le_mul_right _ (by omega)
    ·cases hi
   ·cases hi
  ·cases hi
 ·cases hi
theorem aCV (H:aZ P ρ h w) {t e tt:TypeId} {type:TypeId} {d x d' x' v:Value} {h':ae} (ht:P.underlying t=some (.slice e)) (hz:(P.info? e).map (·.size)=some 1) (hi:Ru h d x=some (v,h')) (hd:ax ρ d d') (hx:ax ρ x x'):
  ∃w',(Builtin.copy_ #[t,tt] type #[d',x']).run P w=.ok v w'∧ax ρ v v∧aZ P ρ h' w'∧Tr ρ h w ρ h' w':=by
 unfold Ru at hi
 split at hi
 ·rename_i n m cs hn hm qm
  have oP:∃p c,d'=.slice p n c:=by
   unfold pP at hn
   split at hn
   ·cases hd;cases hn;exact ⟨_,_,rfl⟩
   ·cases hd;cases hn;exact ⟨_,_,rfl⟩
   ·cases hn
  have gZ:∃p c,x'=.slice p m c:=by
   unfold pP at hm
   split at hm
   ·cases hx;cases hm;exact ⟨_,_,rfl⟩
   ·cases hx;cases hm;exact ⟨_,_,rfl⟩
   ·cases hm
  split at hi
  ·rename_i h0
   simp at hi
   obtain ⟨rfl,rfl⟩:=hi
   obtain ⟨p,c,rfl⟩:=oP
   obtain ⟨q,c',rfl⟩:=gZ
   exact ⟨w,run_copy_none (P:=P) w t tt type e p q n c m c' ht hz h0,.int _ _,H,.refl H⟩
  ·rename_i h0
   split at hi
   ·rename_i i o e' n' c0
    split at hi
    ·rename_i e2 xs hg
     split at hi
     ·rename_i hle
      simp only [Option.some.injEq,Prod.mk.injEq] at hi
      obtain ⟨rfl,rfl⟩:=hi
      cases hd with
      | slice hr ho hn2 hc hb=>
       rename_i o' c' r
       simp [pP] at hn
       subst hn
       have jm:0<n':=by
        have:Nat.min m n'≤n':=Nat.min_le_right _ _
        omega
       have dO:o'=r.sh+o:=by
        rcases ho with ho | ⟨q1,q2,q3⟩
        ·exact ho
        ·omega
       subst dO
       obtain ⟨a1,a2,c,a3,a4,a5⟩:=H.arr hr hg
       rcases KH H qm hx with ⟨rfl,rfl⟩ | ⟨b,ob,nn,cc,rfl,hl,hlen,sD,ys,zk,av4⟩
       ·obtain ⟨q,c',hq⟩:=gZ
        cases hq
        exact absurd (Nat.zero_min n') h0
       ·rw [hm] at hl
        cases hl
        rw [Nat.mul_one] at hlen
        have awN:=zk.length
        have aD:(ys.take (Nat.min m n')).length=Nat.min m n':=by
         rw [List.length_take,←awN,hlen];exact Nat.min_eq_left (Nat.min_le_left _ _)
        have hct:(cs.take (Nat.min m n')).length=Nat.min m n':=by
         rw [List.length_take,hlen];exact Nat.min_eq_left (Nat.min_le_left _ _)
        have zi:bF ρ (cs.take (Nat.min m n')) (ys.take (Nat.min m n')):=zk.take _
        have h1c:∀v∈cs.take (Nat.min m n'),gy v=true:=fun v hv=>sD v (List.mem_of_mem_take hv)
        have gu:=run_copy_row (P:=P) w t tt type e r.bw (r.sh+o) n' c' ⟨b,ob,none⟩ m cc c e2 (ys.take (Nat.min m n')) ht hz a3 aD
         (fun j v hj=>by
          rw [List.getElem?_take] at hj
          split at hj
          ·rw [Addr.add_lit];exact av4 j v hj
          ·cases hj) (by have:=a5.le;rw [aD,a2];omega) (zi.EG h1c)
        rw [aD,a2,zero_add] at gu
        have heq:(c.toList.take o++ys.take (Nat.min m n')++c.toList.drop (o+Nat.min m n')).toArray=(setAt c.toList o (ys.take (Nat.min m n'))).toArray:=by simp only [setAt,aD]
        rw [heq] at gu
        have jj:cB h i:=.inl ⟨e2,xs,hg⟩
        obtain ⟨q1,q2⟩:=H.set (o:=.arr e2 (setAt xs o (cs.take (Nat.min m n')))) hr jj (mK.row a3 (setAt c.toList o (ys.take (Nat.min m n'))).toArray)
         ⟨a1,a2,_,(mK.row a3 _).here,by simp [UP (show o+(ys.take (Nat.min m n')).length≤c.toList.length by have:=a5.le;simp only [Array.length_toList];omega),a4],a5.put zi h1c (by omega)⟩
        refine ⟨_,?_,.int _ _,q1,q2⟩
        rw [a2,zero_add];exact gu
     ·cases hi
    ·cases hi
   ·cases hi
 ·cases hi
end
end
section
theorem mK.obj {w:World} {g:Nat} {x:Obj} (hg:w.heap[g]?=some x) (b:Obj):mK w g b { w with heap:=w.heap.setIfInBounds g b } where
 here:=by
  have:=(Array.getElem?_eq_some_iff.1 hg).1
  simp [this]
 other:=by intro j hj;simp [Ne.symm hj]
 size:=by simp
 os:=rfl
 tape:=rfl
 output:=rfl
theorem au5 {ρ:aK} {es:List (ByteArray×Value)} {aJ:List MapEntry} (h:mI ρ es aJ) (k:ByteArray) {v v':Value} (hv:ax ρ v v') (born:Nat):∀i:Nat,
  (Instr.findNow .string (.string k) aJ i=some none∧mI ρ (tg k v es) (aJ++[{ key:=.string k,val:=v',born }]))∨
  (∃u j,Instr.findNow .string (.string k) aJ i=some (some (i+j,u))∧(∃en,aJ[j]?=some en∧en.key=.string k)∧mI ρ (tg k v es) (aJ.modify j fun e=>{ e with key:=.string k,val:=v' })):=by
 induction h with
 | nil=>intro i;exact .inl ⟨rfl,.cons rfl hv .nil⟩
 | cons h1 h2 h3 ih=>
  rename_i k0 v0 en es aJ
  intro i
  by_cases hk:k=k0
  ·subst hk
   have hb:(k==k)=true:=(MapKept.bytes_beq k k).2 rfl
   refine .inr ⟨en.val,0,?_,⟨en,rfl,h1⟩,?_⟩
   ·simp [Instr.findNow,h1,Instr.sameNow,hb]
   ·simp only [tg,if_true,List.modify_zero_cons]
    exact .cons rfl hv h3
  ·have hb:(k==k0)=false:=by
    rw [Bool.eq_false_iff]
    exact fun e=>hk ((MapKept.bytes_beq k k0).1 e)
   rcases ih (i+1) with ⟨e1,e2⟩ | ⟨u,j,e1,e2,e3⟩
   ·refine .inl ⟨?_,?_⟩
    ·simp [Instr.findNow,h1,Instr.sameNow,hb,e1]
    ·simp only [tg,if_neg hk,List.cons_append]
     exact .cons h1 h2 e2
   ·refine .inr ⟨u,j+1,?_,by simpa using e2,?_⟩
    ·simp [Instr.findNow,h1,Instr.sameNow,hb,e1];omega
    ·simp only [tg,if_neg hk,List.modify_succ_cons]
     exact .cons h1 h2 e3
theorem au6 {kd:IntKind} {ρ:aK} {es:List (Int×Value)} {aJ:List MapEntry} (h:mJ kd ρ es aJ) (k:Int) {v v':Value} (hv:ax ρ v v') (born:Nat):∀i:Nat,
  (Instr.findNow (.int kd) (.int kd k) aJ i=some none∧mJ kd ρ (tf k v es) (aJ++[{ key:=.int kd k,val:=v',born }]))∨
  (∃u j,Instr.findNow (.int kd) (.int kd k) aJ i=some (some (i+j,u))∧(∃en,aJ[j]?=some en∧en.key=.int kd k)∧mJ kd ρ (tf k v es) (aJ.modify j fun e=>{ e with key:=.int kd k,val:=v' })):=by
 induction h with
 | nil=>intro i;exact .inl ⟨rfl,.cons rfl hv .nil⟩
 | cons h1 h2 h3 ih=>
  rename_i k0 v0 en es aJ
  intro i
  by_cases hk:k=k0
  ·subst hk
   have hb:(k==k)=true:=beq_self_eq_true k
   refine .inr ⟨en.val,0,?_,⟨en,rfl,h1⟩,?_⟩
   ·simp [Instr.findNow,h1,Instr.sameNow]
   ·simp only [tf,if_true,List.modify_zero_cons]
    exact .cons rfl hv h3
  ·have hb:(k==k0)=false:=by
    exact beq_false_of_ne hk
   rcases ih (i+1) with ⟨e1,e2⟩ | ⟨u,j,e1,e2,e3⟩
   ·refine .inl ⟨?_,?_⟩
    ·simp [Instr.findNow,h1,Instr.sameNow,hb,e1]
    ·simp only [tf,if_neg hk,List.cons_append]
     exact .cons h1 h2 e2
   ·refine .inr ⟨u,j+1,?_,by simpa using e2,?_⟩
    ·simp [Instr.findNow,h1,Instr.sameNow,hb,e1];omega
    ·simp only [tf,if_neg hk,List.modify_succ_cons]
     exact .cons h1 h2 e3
section
variable {P : Program} {w : World} {ρ : aK} {h : ae}
theorem aC8 (H:aZ P ρ h w) (t:TypeId):∃w' av v',(Instr.makeMap t none).run P w=.ok v' w'∧ax av (.map (some h.length)) v'∧aZ P av (h++[.smap []]) w'∧Tr ρ h w av (h++[.smap []]) w':=by
 have nb:=jM.alloc w (.map #[] 0)
 obtain ⟨q1,q2⟩:=H.new (h₀:=h) (o:=.smap []) (r:=⟨w.heap.size,0,0,P.cellsOf 0,0⟩) nb rfl rfl rfl (fun _=>.inl rfl) ⟨#[],0,nb.new,rfl,fun j k v hj=>by simp at hj⟩
 refine ⟨_,_,.map (some w.heap.size),?_,ax.map (AJ _ _ _),q1,q2⟩
 simp [Instr.makeMap]
theorem aDa (H:aZ P ρ h w) (t:TypeId) (kd:IntKind):∃w' av v',(Instr.makeMap t none).run P w=.ok v' w'∧ax av (.map (some h.length)) v'∧aZ P av (h++[.kH kd []]) w'∧Tr ρ h w av (h++[.kH kd []]) w':=by
 have nb:=jM.alloc w (.map #[] 0)
 obtain ⟨q1,q2⟩:=H.new (h₀:=h) (o:=.kH kd []) (r:=⟨w.heap.size,0,0,P.cellsOf 0,0⟩) nb rfl rfl rfl (fun _=>.inl rfl) ⟨#[],0,nb.new,rfl,fun j k v hj=>by simp at hj⟩
 refine ⟨_,_,.map (some w.heap.size),?_,ax.map (AJ _ _ _),q1,q2⟩
 simp [Instr.makeMap]
theorem xE {g:Nat} {aJ:Array MapEntry} {clock:Nat} (hg:w.heap[g]?=some (.map aJ clock)) (o:Obj):(setObj g o).run P w=.ok () { w with heap:=w.heap.setIfInBounds g o }:=by
 simp [setObj,Sem.run,hg]
theorem alw (H:aZ P ρ h w) {t kt et:TypeId} {m m' k k' v v':Value} {h':ae} (ht:P.underlying t=some (.map kt et)) (hk:isString P kt=true)
  (hi:Rx h m k v=some h') (hm:ax ρ m m') (jv:ax ρ k k') (hv:ax ρ v v'):∃w',(Instr.mapUpdate t m' k' v').run P w=.ok () w'∧aZ P ρ h' w'∧Tr ρ h w ρ h' w':=by
 unfold Rx at hi
 split at hi
 ·rename_i i key
  rw [jv.we]
  cases hm with
  | map hr=>
   rename_i r
   split at hi
   ·rename_i es he
    simp at hi;subst hi
    obtain ⟨aJ,clock,hb,yL⟩:=H.aJ hr he
    have mj:=aeH hk
    have jj:cB h i:=.inr (.inl ⟨es,he⟩)
    have mk:∀(qh:Array MapEntry) (so:Nat),mI ρ (tg key v es) qh.toList→aZ P ρ (h.set i (.smap (tg key v es))) { w with heap:=w.heap.setIfInBounds r.bw (.map qh so) }∧
      Tr ρ h w ρ (h.set i (.smap (tg key v es))) { w with heap:=w.heap.setIfInBounds r.bw (.map qh so) }:=by
     intro qh so fK
     have sb:=mK.obj hb (.map qh so)
     have:=fK.to
     exact H.set (o:=.smap (tg key v es)) hr jj sb ⟨qh,so,sb.here,by simpa using this.1,by simpa using this.2⟩
    rcases au5 yL key hv clock 0 with ⟨e1,e2⟩ | ⟨u,j,e1,⟨en,e2,ym⟩,e3⟩
    ·obtain ⟨q1,q2⟩:=mk (aJ.push { key:=.string key,val:=v',born:=clock }) (clock+1) (by simpa using e2)
     refine ⟨_,?_,q1,q2⟩
     simp [Instr.mapUpdate,run_underlying ht,run_getObj_map hb,run_checkKey _ mj,run_findKey mj key _ e1,xE hb]
    ·obtain ⟨q1,q2⟩:=mk (aJ.modify j fun e=>{ e with key:=.string key,val:=v' }) clock (by simpa using e3)
     refine ⟨_,?_,q1,q2⟩
     have bU:aJ[j]?=some en:=by simpa using e2
     have ze:Instr.sameBits 10000 (.string key) (.string key)=true:=by
      simp [Instr.sameBits,(MapKept.bytes_beq key key).2 rfl]
     have D4:(Instr.keyThatStays (((aJ[j]?).map (·.key)).getD (.string key)) (.string key)).run P w=.ok (.string key) w:=by
      rw [bU]
      simp [Instr.keyThatStays,ym,ze]
     simp only [Instr.mapUpdate,Sem.run_bind,run_underlying ht,Result.andThen_ok,run_getObj_map hb,run_checkKey _ mj,run_findKey mj key _ e1]
     simp only [zero_add,D4,Result.andThen_ok,xE hb]
   ·cases hi
 ·cases hi
theorem aly (H:aZ P ρ h w) {t kt et:TypeId} {kd:IntKind} {m m' k k' v v':Value} {h':ae} (ht:P.underlying t=some (.map kt et)) (hk:zB P kt=some kd)
  (hi:Ry kd h m k v=some h') (hm:ax ρ m m') (jv:ax ρ k k') (hv:ax ρ v v'):∃w',(Instr.mapUpdate t m' k' v').run P w=.ok () w'∧aZ P ρ h' w'∧Tr ρ h w ρ h' w':=by
 unfold Ry at hi
 split at hi
 ·rename_i i BM key
  rw [jv.mw]
  cases hm with
  | map hr=>
   rename_i r
   split at hi
   ·rename_i nD es he
    split at hi
    ·rename_i oR
     obtain ⟨rfl,rfl⟩:=oR
     simp at hi;subst hi
     obtain ⟨aJ,clock,hb,yL⟩:=H.acg hr he
     have mj:=aeE hk
     have jj:cB h i:=.inr (.inr (.inr (.inl ⟨_,es,he⟩)))
     have mk:∀(qh:Array MapEntry) (so:Nat),mJ nD ρ (tf key v es) qh.toList→aZ P ρ (h.set i (.kH nD (tf key v es))) { w with heap:=w.heap.setIfInBounds r.bw (.map qh so) }∧
       Tr ρ h w ρ (h.set i (.kH nD (tf key v es))) { w with heap:=w.heap.setIfInBounds r.bw (.map qh so) }:=by
      intro qh so fK
      have sb:=mK.obj hb (.map qh so)
      have:=fK.to
      exact H.set (o:=.kH nD (tf key v es)) hr jj sb ⟨qh,so,sb.here,by simpa using this.1,by simpa using this.2⟩
     rcases au6 yL key hv clock 0 with ⟨e1,e2⟩ | ⟨u,j,e1,⟨en,e2,ym⟩,e3⟩
     ·obtain ⟨q1,q2⟩:=mk (aJ.push { key:=.int nD key,val:=v',born:=clock }) (clock+1) (by simpa using e2)
      refine ⟨_,?_,q1,q2⟩
      simp [Instr.mapUpdate,run_underlying ht,run_getObj_map hb,Kw _ mj,Kx mj key _ e1,xE hb]
     ·obtain ⟨q1,q2⟩:=mk (aJ.modify j fun e=>{ e with key:=.int nD key,val:=v' }) clock (by simpa using e3)
      refine ⟨_,?_,q1,q2⟩
      have bU:aJ[j]?=some en:=by simpa using e2
      have ze:∀kd,Instr.sameBits 10000 (.int kd key) (.int kd key)=true:=by
       intro kd
       simp [Instr.sameBits]
      have D4:(Instr.keyThatStays (((aJ[j]?).map (·.key)).getD (.int nD key)) (.int nD key)).run P w=.ok (.int nD key) w:=by
       rw [bU]
       simp [Instr.keyThatStays,ym,ze]
      simp only [Instr.mapUpdate,Sem.run_bind,run_underlying ht,Result.andThen_ok,run_getObj_map hb,Kw _ mj,Kx mj key _ e1]
      simp only [zero_add,D4,Result.andThen_ok,xE hb]
    ·cases hi
   ·cases hi
 ·cases hi
theorem aC9 (H:aZ P ρ h w) (t:TypeId) (g:fR):∃w' av v',(Instr.makeMap t none).run P w=.ok v' w'∧ax av (.map (some h.length)) v'∧aZ P av (h++[.cR g 0 []]) w'∧Tr ρ h w av (h++[.cR g 0 []]) w':=by
 have nb:=jM.alloc w (.map #[] 0)
 obtain ⟨q1,q2⟩:=H.new (h₀:=h) (o:=.cR g 0 []) (r:=⟨w.heap.size,0,0,P.cellsOf 0,0⟩) nb rfl rfl rfl (fun _=>.inl rfl) ⟨by simp,#[],nb.new,rfl,fun j b k v hj=>by simp at hj⟩
 refine ⟨_,_,.map (some w.heap.size),?_,ax.map (AJ _ _ _),q1,q2⟩
 simp [Instr.makeMap]
theorem sj.set {g:fR} {c:Nat} {es:List (Nat×Value×Value)} {aJ:Array MapEntry} (E:sj ρ g es aJ) {k v v':Value} (hk:fc g k=true) (hv:ax ρ v v'):
  (lQ k es=none→sj ρ g (es++[(c,k,v)]) (aJ.push { key:=k,val:=v',born:=c }))∧∀j b u,lQ k es=some j→es[j]?=some (b,k,u)→sj ρ g (es.modify j fun e=>(e.1,k,v)) (aJ.modify j fun e=>{ e with key:=k,val:=v' }):=by
 constructor
 ·intro hp
  have dG:∀e∈es,e.2.1≠k:=by
   rcases Kc hk es with ⟨_,h2⟩ | ⟨j,e,h1,_⟩
   ·exact h2
   ·rw [hp] at h1;cases h1
  refine ⟨by simp [E.size],?_,?_⟩
  ·rw [List.map_append,List.nodup_append]
   refine ⟨E.nodup,by simp,?_⟩
   intro a ha b hb
   obtain ⟨e,he,rfl⟩:=List.mem_map.1 ha
   simp at hb
   subst hb
   exact dG e he
  ·intro j b k1 v1 hj
   by_cases aD:j<es.length
   ·rw [getElem?_append_left aD] at hj
    obtain ⟨g1,en,g2,g3⟩:=E.get j b k1 v1 hj
    exact ⟨g1,en,by rw [Array.getElem?_push_lt (by rw [E.size];exact aD)];rw [getElem?_eq_getElem (by rw [E.size];exact aD)] at g2;exact g2,g3⟩
   ·rw [List.getElem?_append_right (by omega)] at hj
    have nB:j=es.length:=by
     have:=(bK hj).1
     simp at this
     omega
    subst nB
    simp at hj
    obtain ⟨rfl,rfl,rfl⟩:=hj
    exact ⟨hk,{ key:=k,val:=v',born:=c },by rw [←E.size];simp,rfl,rfl,hv⟩
 ·intro j b u hp hj
  have avZ:((es.modify j fun e=>(e.1,k,v)).map fun e=>e.2.1)=es.map fun e=>e.2.1:=by
   apply List.ext_getElem?
   intro i
   simp only [List.getElem?_map,List.getElem?_modify]
   by_cases eC:j=i
   ·subst eC;simp [hj]
   ·simp [eC]
  refine ⟨by simp [E.size],by rw [avZ];exact E.nodup,?_⟩
  intro i b1 k1 v1 hi
  rw [List.getElem?_modify] at hi
  by_cases eC:j=i
  ·subst eC
   simp [hj] at hi
   obtain ⟨rfl,rfl,rfl⟩:=hi
   obtain ⟨g1,en,g2,g3,g4,_⟩:=E.get j b k u hj
   refine ⟨hk,{ en with key:=k,val:=v' },?_,rfl,g4,hv⟩
   rw [Array.getElem?_modify]
   simp [g2]
  ·simp [eC] at hi
   obtain ⟨g1,en,g2,g3⟩:=E.get i b1 k1 v1 hi
   refine ⟨g1,en,?_,g3⟩
   rw [Array.getElem?_modify]
   simp [eC,g2]
theorem alx (H:aZ P ρ h w) {t:TypeId} {g:fR} {m m' k k' v v':Value} {h':ae} (hg:rr P t=some g)
  (hi:BF g h m k v=some h') (hm:ax ρ m m') (jv:ax ρ k k') (hv:ax ρ v v'):∃w',(Instr.mapUpdate t m' k' v').run P w=.ok () w'∧aZ P ρ h' w'∧Tr ρ h w ρ h' w':=by
 obtain ⟨kt,et,ht,L⟩:=Ik hg
 unfold BF at hi
 split at hi
 ·rename_i i
  cases hm with
  | map hr=>
   rename_i r
   split at hi
   ·rename_i g' c es he
    split at hi
    ·rename_i oR
     obtain ⟨rfl,hk,_⟩:=oR
     simp at hi;subst hi
     rw [jv.key hk]
     obtain ⟨aJ,hb,E⟩:=H.AY hr he
     have jj:cB h i:=.inr (.inr (.inr (.inr (.inl ⟨_,_,es,he⟩))))
     obtain ⟨S1,S2⟩:=E.set (c:=c) hk hv
     rcases UC (w:=w) L E hk with ⟨⟨e1,_⟩,e2⟩ | ⟨j,b,u,en,e1,e2,e3,e4,e5,e6,e7⟩
     ·have E':=S1 e1
      have sb:=mK.obj hb (.map (aJ.push { key:=k,val:=v',born:=c }) (c+1))
      have lJ:lR c k v es=es++[(c,k,v)]:=by simp [lR,e1]
      have Qk:oK c k es=c+1:=by simp [oK,e1]
      obtain ⟨q1,q2⟩:=H.set (o:=.cR g' (oK c k es) (lR c k v es)) hr jj sb (by rw [lJ,Qk];exact ⟨E'.nodup,_,sb.here,E'.size,E'.get⟩)
      refine ⟨_,?_,q1,q2⟩
      simp [Instr.mapUpdate,run_underlying ht,run_getObj_map hb,L.check w _ k hk,e2,xE hb]
     ·have E':=S2 j b u e1 e2
      have sb:=mK.obj hb (.map (aJ.modify j fun e=>{ e with key:=k,val:=v' }) c)
      have lJ:lR c k v es=es.modify j fun e=>(e.1,k,v):=by simp [lR,e1]
      have Qk:oK c k es=c:=by simp [oK,e1]
      obtain ⟨q1,q2⟩:=H.set (o:=.cR g' (oK c k es) (lR c k v es)) hr jj sb (by rw [lJ,Qk];exact ⟨E'.nodup,_,sb.here,E'.size,E'.get⟩)
      refine ⟨_,?_,q1,q2⟩
      have D4:(Instr.keyThatStays (((aJ[j]?).map (·.key)).getD k) k).run P w=.ok k w:=by
       rw [e3]
       simp [e4,L.stays w k hk]
      simp only [Instr.mapUpdate,Sem.run_bind,run_underlying ht,Result.andThen_ok,run_getObj_map hb,L.check w _ k hk,e7]
      simp only [D4,Result.andThen_ok,xE hb]
    ·cases hi
   ·cases hi
 ·cases hi
theorem sj.era {g:fR} {es:List (Nat×Value×Value)} {aJ:Array MapEntry} (E:sj ρ g es aJ) {j:Nat} (hj:j<es.length):sj ρ g (es.eraseIdx j) (aJ.eraseIdxIfInBounds j):=by
 have aD:j<aJ.size:=by rw [E.size];exact hj
 have he:aJ.eraseIdxIfInBounds j=aJ.eraseIdx j aD:=by simp [Array.eraseIdxIfInBounds,aD]
 rw [he]
 refine ⟨by rw [Array.size_eraseIdx,List.length_eraseIdx,if_pos hj,E.size],?_,?_⟩
 ·refine List.Nodup.sublist ?_ E.nodup
  exact (List.eraseIdx_sublist _ _).map _
 ·intro i b k v hi
  rw [List.getElem?_eraseIdx] at hi
  split at hi
  ·rename_i eC
   obtain ⟨g1,en,g2,g3⟩:=E.get i b k v hi
   exact ⟨g1,en,by rw [Array.getElem?_eraseIdx,if_pos eC];exact g2,g3⟩
  ·rename_i eC
   obtain ⟨g1,en,g2,g3⟩:=E.get (i+1) b k v hi
   exact ⟨g1,en,by rw [Array.getElem?_eraseIdx,if_neg eC];exact g2,g3⟩
theorem aCW (H:aZ P ρ h w) {t ty:TypeId} {ts:Array TypeId} {g:fR} {m m' k k':Value} {h':ae} (D7:ts[0]?=some t) (hg:rr P t=some g)
  (hi:Ef g h m k=some h') (hm:ax ρ m m') (jv:ax ρ k k'):∃w',(Builtin.delete_ ts ty #[m',k']).run P w=.ok (.tuple #[]) w'∧aZ P ρ h' w'∧Tr ρ h w ρ h' w':=by
 obtain ⟨kt,et,ht,L⟩:=Ik hg
 unfold Ef at hi
 split at hi
 ·rename_i i
  cases hm with
  | map hr=>
   rename_i r
   split at hi
   ·rename_i g' c es he
    split at hi
    ·rename_i oR
     obtain ⟨rfl,hk⟩:=oR
     simp at hi;subst hi
     rw [jv.key hk]
     obtain ⟨aJ,hb,E⟩:=H.AY hr he
     have jj:cB h i:=.inr (.inr (.inr (.inr (.inl ⟨_,_,es,he⟩))))
     rcases UC (w:=w) L E hk with ⟨⟨e1,_⟩,e2⟩ | ⟨j,b,u,en,e1,e2,e3,e4,e5,e6,e7⟩
     ·have sb:=mK.obj hb (.map aJ c)
      have lJ:rj k es=es:=by simp [rj,e1]
      obtain ⟨q1,q2⟩:=H.set (o:=.cR g' c (rj k es)) hr jj sb (by rw [lJ];exact ⟨E.nodup,_,sb.here,E.size,E.get⟩)
      refine ⟨_,?_,q1,q2⟩
      simp [Builtin.delete_,D7,run_underlying ht,run_getObj_map hb,L.check w _ k hk,e2,xE hb]
     ·have E':=E.era (bK e2).1
      have sb:=mK.obj hb (.map (aJ.eraseIdxIfInBounds j) c)
      have lJ:rj k es=es.eraseIdx j:=by simp [rj,e1]
      obtain ⟨q1,q2⟩:=H.set (o:=.cR g' c (rj k es)) hr jj sb (by rw [lJ];exact ⟨E'.nodup,_,sb.here,E'.size,E'.get⟩)
      refine ⟨_,?_,q1,q2⟩
      simp [Builtin.delete_,D7,run_underlying ht,run_getObj_map hb,L.check w _ k hk,e7,xE hb]
    ·cases hi
   ·cases hi
 ·cases hi
theorem aDd (H:aZ P ρ h w) {t:TypeId} {g:fR} {x x' v:Value} {h':ae} (hg:rr P t=some g) (hi:BG h x=some (v,h')) (hx:ax ρ x x'):
  ∃w' av v',(Instr.range t x').run P w=.ok v' w'∧ax av v v'∧aZ P av h' w'∧Tr ρ h w av h' w':=by
 obtain ⟨kt,et,ht,L⟩:=Ik hg
 unfold BG at hi
 split at hi
 ·rename_i i
  cases hx with
  | map hr=>
   rename_i r
   split at hi
   ·rename_i g' c es he
    simp at hi
    obtain ⟨rfl,rfl⟩:=hi
    obtain ⟨aJ,hb,E⟩:=H.AY hr he
    have nb:=jM.alloc w (.mapIter (some r.bw) c #[] c)
    have bp:i≠h.length:=by
     have:=(bK he).1
     omega
    obtain ⟨q1,q2⟩:=H.new (h₀:=h) (o:=.iter i c [] c) (r:=⟨w.heap.size,0,0,P.cellsOf 0,0⟩) nb rfl rfl rfl (fun _=>.inl rfl)
     ⟨rfl,r,by simp [aK.add,bp,hr],nb.new⟩
    refine ⟨_,_,.pointer (some ⟨w.heap.size,0,none⟩),?_,?_,q1,q2⟩
    ·simp [Instr.range,run_underlying ht,run_getObj_map hb,newObj,Sem.run,Result.andThen]
    ·exact ax.ptr (o:=0) (AJ _ _ _)
   ·cases hi
 ·cases hi
theorem j5.val {v v':Value} {h':ae} {s:Result Next} {w':World} {av:aK} (e:s=.ok (.value v') w') (a:ax av v v') (b:aZ P av h' w') (c:Tr ρ h w av h' w'):j5 P ρ h w v h' s:=
 ⟨_,_,_,_,e,.inl rfl,a,b,c⟩
theorem j5.skip {h':ae} {s:Result Next} {w':World} (e:s=.ok .skip w') (b:aZ P ρ h' w') (c:Tr ρ h w ρ h' w'):j5 P ρ h w undef h' s:=
 ⟨_,_,_,_,e,.inr ⟨rfl,rfl⟩,ax.undef _,b,c⟩
theorem auE {o:Oper} {eo:pb} {g g':Operand→Value} (hc:iD P o.op=some eo) (aG:o.op.operands.all jy=true) (H:aZ P ρ h w)
  (hg:∀x,jy x=true→ax ρ (g x) (g' x)) {v:Value} {h':ae} (hi:fZ eo g h=some (v,h')):j5 P ρ h w v h' ((execOp g' o).run P w):=by
 cases ho:o.op with
 | store t a x=>
  rw [ho] at hc aG
  simp [Op.operands] at aG
  simp only [iD] at hc
  split at hc
  ·rename_i hk
   simp at hc;subst hc
   simp only [fZ,map_eq_some_iff,Prod.mk.injEq] at hi
   obtain ⟨aT,hi,rfl,rfl⟩:=hi
   obtain ⟨w',q1,q2,q3⟩:=aDg H hk hi (hg a aG.1) (hg x aG.2)
   exact j5.skip (w':=w') (by simp [execOp,ho,q1]) q2 q3
  ·cases hc
 | box e x=>
  rw [ho] at hc aG
  simp [Op.operands] at aG
  simp [iD] at hc;subst hc
  obtain ⟨w',av,v',q1,q2,q3,q4⟩:=aCS H hi (hg x aG)
  exact j5.val (v':=v') (w':=w') (by simp [execOp,ho,q1]) q2 q3 q4
 | alloc e=>
  rw [ho] at hc
  simp only [iD,map_eq_some_iff] at hc
  obtain ⟨zs,hz,rfl⟩:=hc
  simp [fZ] at hi
  obtain ⟨rfl,rfl⟩:=hi
  obtain ⟨w',av,v',q1,q2,q3,q4⟩:=aCO H hz
  exact j5.val (v':=v') (w':=w') (by simp [execOp,ho,q1]) q2 q3 q4
 | buildSlice t n ps=>
  rw [ho] at hc aG
  simp only [iD] at hc
  simp only [Op.operands] at aG
  split at hc
  ·rename_i e ht
   split at hc
   ·rename_i zs hz
    split at hc
    ·rename_i hb
     simp at hc;subst hc
     have hq:∀q∈ps.toList,jy q.2=true:=by
      intro q hm
      rw [Array.all_eq_true'] at aG
      exact aG q.2 (by simp;exact ⟨q.1,by simpa using hm⟩)
     have hp:=T7 hg (fun i=>(i*P.cellsOf e,P.cellsOf e)) ps.toList hq
     obtain ⟨w',av,v',q1,q2,q3,q4⟩:=aDb H ht hz hb.1 hb.2 (qs:=ps.map fun (i,x)=>(i,g' x)) (by simpa using hp) hi
     exact j5.val (v':=v') (w':=w') (by simp [execOp,ho,q1]) q2 q3 q4
    ·cases hc
   ·cases hc
  ·cases hc
 | makeSlice t l c=>
  rw [ho] at hc aG
  simp [Op.operands] at aG
  simp only [iD] at hc
  split at hc
  ·rename_i e ht
   split at hc
   ·rename_i zs hz
    simp at hc;subst hc
    obtain ⟨w',av,v',q1,q2,q3,q4⟩:=aC7 H ht hz hi (hg l aG.1) (hg c aG.2)
    exact j5.val (v':=v') (w':=w') (by simp [execOp,ho,q1]) q2 q3 q4
   ·cases hc
  ·cases hc
 | range t x=>
  rw [ho] at hc aG
  simp [Op.operands] at aG
  simp only [iD,map_eq_some_iff] at hc
  obtain ⟨g,kD,rfl⟩:=hc
  obtain ⟨w',av,v',q1,q2,q3,q4⟩:=aDd H kD hi (hg x aG)
  exact j5.val (v':=v') (w':=w') (by simp [execOp,ho,q1]) q2 q3 q4
 | next it b=>
  rw [ho] at hc
  cases b with
  | false=>simp [iD] at hc;subst hc;simp [fZ] at hi
  | true=>simp [iD] at hc
 | makeMap t r=>
  rw [ho] at hc
  cases r with
  | none=>
   cases kD:rr P t with
   | some g=>
    simp only [iD,kD,Option.some.injEq] at hc
    subst hc
    simp [fZ] at hi
    obtain ⟨rfl,rfl⟩:=hi
    obtain ⟨w',av,v',q1,q2,q3,q4⟩:=aC9 H t g
    exact j5.val (v':=v') (w':=w') (by simp [execOp,ho,q1]) q2 q3 q4
   | none=>
   have two:eo=.mkMap∨∃kd,eo=.Jo kd:=by
    simp only [iD,kD] at hc
    split at hc
    ·split at hc
     ·simp at hc;exact .inr ⟨_,hc.symm⟩
     ·simp at hc;exact .inl hc.symm
    ·simp at hc;exact .inl hc.symm
   rcases two with rfl | ⟨kd,rfl⟩
   ·simp [fZ] at hi
    obtain ⟨rfl,rfl⟩:=hi
    obtain ⟨w',av,v',q1,q2,q3,q4⟩:=aC8 H t
    exact j5.val (v':=v') (w':=w') (by simp [execOp,ho,q1]) q2 q3 q4
   ·simp [fZ] at hi
    obtain ⟨rfl,rfl⟩:=hi
    obtain ⟨w',av,v',q1,q2,q3,q4⟩:=aDa H t kd
    exact j5.val (v':=v') (w':=w') (by simp [execOp,ho,q1]) q2 q3 q4
  | some r=>simp [iD] at hc
 | mapUpdate t m k x=>
  rw [ho] at hc aG
  simp [Op.operands] at aG
  simp only [iD] at hc
  split at hc
  ·rename_i g kD
   simp at hc;subst hc
   simp only [fZ,map_eq_some_iff,Prod.mk.injEq] at hi
   obtain ⟨aT,hi,rfl,rfl⟩:=hi
   obtain ⟨w',q1,q2,q3⟩:=alx H kD hi (hg m aG.1) (hg k aG.2.1) (hg x aG.2.2)
   exact j5.skip (w':=w') (by simp [execOp,ho,q1]) q2 q3
  split at hc
  ·rename_i kt et ht
   split at hc
   ·rename_i hk
    simp at hc;subst hc
    simp only [fZ,map_eq_some_iff,Prod.mk.injEq] at hi
    obtain ⟨aT,hi,rfl,rfl⟩:=hi
    obtain ⟨w',q1,q2,q3⟩:=alw H ht hk hi (hg m aG.1) (hg k aG.2.1) (hg x aG.2.2)
    exact j5.skip (w':=w') (by simp [execOp,ho,q1]) q2 q3
   ·simp only [map_eq_some_iff] at hc
    obtain ⟨kd,oR,rfl⟩:=hc
    simp only [fZ,map_eq_some_iff,Prod.mk.injEq] at hi
    obtain ⟨aT,hi,rfl,rfl⟩:=hi
    obtain ⟨w',q1,q2,q3⟩:=aly H ht oR hi (hg m aG.1) (hg k aG.2.1) (hg x aG.2.2)
    exact j5.skip (w':=w') (by simp [execOp,ho,q1]) q2 q3
  ·cases hc
 | insert t m k x=>
  rw [ho] at hc aG
  simp [Op.operands] at aG
  simp only [iD] at hc
  split at hc
  ·rename_i g kD
   simp at hc;subst hc
   simp only [fZ,map_eq_some_iff,Prod.mk.injEq] at hi
   obtain ⟨aT,hi,rfl,rfl⟩:=hi
   obtain ⟨w',q1,q2,q3⟩:=alx H kD hi (hg m aG.1) (hg k aG.2.1) (hg x aG.2.2)
   exact j5.skip (w':=w') (by simp [execOp,ho,q1]) q2 q3
  split at hc
  ·rename_i kt et ht
   split at hc
   ·rename_i hk
    simp at hc;subst hc
    simp only [fZ,map_eq_some_iff,Prod.mk.injEq] at hi
    obtain ⟨aT,hi,rfl,rfl⟩:=hi
    obtain ⟨w',q1,q2,q3⟩:=alw H ht hk hi (hg m aG.1) (hg k aG.2.1) (hg x aG.2.2)
    exact j5.skip (w':=w') (by simp [execOp,ho,q1]) q2 q3
   ·simp only [map_eq_some_iff] at hc
    obtain ⟨kd,oR,rfl⟩:=hc
    simp only [fZ,map_eq_some_iff,Prod.mk.injEq] at hi
    obtain ⟨aT,hi,rfl,rfl⟩:=hi
    obtain ⟨w',q1,q2,q3⟩:=aly H ht oR hi (hg m aG.1) (hg k aG.2.1) (hg x aG.2.2)
    exact j5.skip (w':=w') (by simp [execOp,ho,q1]) q2 q3
  ·cases hc
 | call c=>
  rw [ho] at hc aG
  obtain ⟨callee,args,argTypes⟩:=c
  cases callee with
  | builtin b=>
   cases b with
   | append=>
    simp only [iD] at hc
    split at hc
    ·rename_i s x t t' hx vG
     obtain rfl:args=#[s,x]:=ext' hx
     obtain rfl:argTypes=#[t,t']:=ext' vG
     simp [Op.operands,Call.operands] at aG
     split at hc
     ·rename_i hte
      subst hte
      split at hc
      ·rename_i e ht
       split at hc
       ·rename_i zs hz
        simp at hc;subst hc
        obtain ⟨w',av,v',q1,q2,q3,q4⟩:=aCP (type:=o.type) H ht hz hi (hg s aG.1) (hg x aG.2)
        exact j5.val (v':=v') (w':=w') (by simp [execOp,ho,resolve,invoke,builtin,q1]) q2 q3 q4
       ·cases hc
      ·cases hc
     ·cases hc
    ·cases hc
   | copy=>
    simp only [iD] at hc
    split at hc
    ·rename_i d x t t' hx vG
     obtain rfl:args=#[d,x]:=ext' hx
     obtain rfl:argTypes=#[t,t']:=ext' vG
     simp [Op.operands,Call.operands] at aG
     split at hc
     ·rename_i e ht
      split at hc
      ·rename_i hz
       simp at hc;subst hc
       obtain ⟨w',q1,q2,q3,q4⟩:=aCV (tt:=t') (type:=o.type) H ht hz hi (hg d aG.1) (hg x aG.2)
       exact j5.val (v':=v) (w':=w') (by simp [execOp,ho,resolve,invoke,builtin,q1]) q2 q3 q4
      ·cases hc
     ·cases hc
    ·cases hc
   | delete=>
    simp only [iD] at hc
    split at hc
    ·rename_i m k t hx vG
     obtain rfl:args=#[m,k]:=ext' hx
     simp [Op.operands,Call.operands] at aG
     simp only [map_eq_some_iff] at hc
     obtain ⟨g,kD,rfl⟩:=hc
     simp only [fZ,map_eq_some_iff,Prod.mk.injEq] at hi
     obtain ⟨aT,hi,rfl,rfl⟩:=hi
     obtain ⟨w',q1,q2,q3⟩:=aCW (ty:=o.type) H vG kD hi (hg m aG.1) (hg k aG.2)
     exact j5.val (v':=.tuple #[]) (w':=w') (by simp [execOp,ho,resolve,invoke,builtin,q1]) (ax.undef _) q2 q3
    ·cases hc
   | _=>simp [iD] at hc
  | _=>simp [iD] at hc
 | panic x=>rw [ho] at hc;simp [iD] at hc;subst hc;simp [fZ] at hi
 | makeInterface t x=>rw [ho] at hc;simp [iD] at hc;subst hc;simp [fZ] at hi
 | _=>rw [ho] at hc;simp [iD] at hc
end
end
section
inductive gT where
 | p (o:p7)
 | l (o:pe)
 | e (o:pb)
 | call (f:FuncId) (args:List Operand)
 | kS (x:Operand) (args:List Operand)
structure iP where
 dst:Option Nat
 op:gT
 guard:Option (Nat×Bool)
structure je where
 dst:Option Nat
 op:gT
structure cU where
 op:iP
 pre:Nat
structure j6 where
 dst:Option Nat
 op:gT
 pre:Nat
inductive fa where
 | skip
 | HN (l:List (Option (Nat×Bool)×List j6))
 | ops (g:Option (Nat×Bool)) (l:List je)
 | seq (a b:fa)
 | cut (ls:List Nat) (c:fa)
 | cond (c:Operand) (a b:fa)
 | block (id:Nat) (c:fa)
 | loop (ks ls:List Nat) (c:fa)
 | exit (id:Nat)
 | ret
 | range (g:Operand) (ls:List Nat) (c:CJ)
abbrev FR (R:Option Nat):Fence:={ Fence.wide with round:=R }
def wz (P:Program) (F:FuncId) (args:List Value) (h:ae) (v:Value) (h':ae):Prop:=
 ∀(ρ:aK) (args':Array Value) (w:World),bF ρ args args'.toList→aZ P ρ h w→
  Calls P F args' w fun e w'=>∃v' av,e=.returned v'∧ax av v v'∧aZ P av h' w'∧Tr ρ h w av h' w'
def rN (P:Program) (F:FuncId) (args:List Value) (h:ae) (K:Value→ae→Prop):Prop:=∃v h',wz P F args h v h'∧K v h'
theorem rN.mono {P:Program} {F:FuncId} {args:List Value} {h:ae} {K K':Value→ae→Prop} (hc:rN P F args h K) (hk:∀v h',K v h'→K' v h'):rN P F args h K':=
 let ⟨v,h',a,b⟩:=hc;⟨v,h',a,hk v h' b⟩
def LB (P:Program) (i:Nat) (args:List Value) (h:ae) (v:Value) (h':ae):Prop:=
 ∀(ρ:aK) (r:RI) (args':Array Value) (w:World),ρ i=some r→bF ρ args args'.toList→aZ P ρ h w→
  ∃fn tmps j9 body,(Instr.yield r.bw args').run P w=.ok (.round r.bw fn tmps j9 body) w∧
   RoundIn Fence.wide 0 P r.bw fn tmps j9 body w fun e w'=>∃v' av,e=.returned v'∧ax av v v'∧aZ P av h' w'∧Tr ρ h w av h' w'
def Ej (P:Program) (i:Nat) (args:List Value) (h:ae) (K:Value→ae→Prop):Prop:=∃v h',LB P i args h v h'∧K v h'
theorem Ej.mono {P:Program} {i:Nat} {args:List Value} {h:ae} {K K':Value→ae→Prop} (hc:Ej P i args h K) (hk:∀v h',K v h'→K' v h'):Ej P i args h K':=
 let ⟨v,h',a,b⟩:=hc;⟨v,h',a,hk v h' b⟩
def qf (P:Program) (f:FuncId):Bool:=
 match P.funcs[f]? with
 | some fn=>fn.name != "runtime.NumGoroutine" &&fn.body.isSome
 | none=>false
def fG (o:Option Value) (K:Value→Prop):Prop:=
 match o with
 | some v=>K v
 | none=>False
def nG (o:Option (Value×ae)) (K:Value→ae→Prop):Prop:=
 match o with
 | some (v,h')=>K v h'
 | none=>False
def tD (P:Program) (x:Value) (args:List Value) (h:ae) (K:Value→ae→Prop):Prop:=
 match x with
 | .func (.func g) first cap=>qf P g=true∧rN P g (first.toList++args++cap.toList) h K
 | .func (.yield i) first cap=>(first=#[]∧cap=#[])∧Ej P i args h K
 | _=>False
def uk (P:Program) (g:Value) (ls:List Nat) (vs:List Value) (c:CJ) (h:ae) (K:ae→Prop):Prop:=
 match g with
 | .func (.func F) first cap=>qf P F=true∧rN P F (first.toList++[.func (.yield h.length) #[] #[]]++cap.toList) (h++[.loop c ls vs]) fun _ h'=>
   (∃c' ls' jG,h'[h.length]?=some (.loop c' ls' jG))∧K (h'.set h.length .dead)
 | _=>False
def dd (P:Program) (o:gT) (f:Nat→Value) (h:ae) (K:Value→ae→Prop):Prop:=
 match o with
 | .p o=>fG (jx o (ev f)) fun v=>K v h
 | .l o=>fG (fF o (ev f) h) fun v=>K v h
 | .e o=>nG (fZ o (ev f) h) K
 | .call g args=>rN P g (args.map (ev f)) h K
 | .kS x args=>tD P (ev f x) (args.map (ev f)) h K
def qH (v:Value) (b:Bool):Bool:=
 match v with
 | .bool c=>c==b
 | _=>false
def vM:Value→Bool
 | .complex _ _ _=>true
 | _=>false
def iK (g:Option (Nat×Bool)) (f:Nat→Value):Bool:=
 match g with
 | none=>true
 | some (s,b)=>qH (f s) b
def kA (v:Value) (b:Bool) (A B:Prop):Prop:=
 match v with
 | .bool c=>if (c==b)=true then A else B
 | .complex _ _ _=>False
 | _=>B
def dK (f:Nat→Value) (d:Option Nat) (v:Value):Nat→Value:=
 match d with
 | some d=>xH f d v
 | none=>f
def sS (P:Program):List iP→((Nat→Value)→ae→Prop)→(Nat→Value)→ae→Prop
 | [],K,f,h=>K f h
 | o::os,K,f,h=>
  match o.guard with
  | none=>dd P o.op f h fun v h'=>sS P os K (dK f o.dst v) h'
  | some (s,b)=>kA (f s) b (dd P o.op f h fun v h'=>sS P os K (dK f o.dst v) h') (sS P os K (dK f o.dst undef) h)
def wV (P:Program):List je→((Nat→Value)→ae→Prop)→(Nat→Value)→ae→Prop
 | [],K,f,h=>K f h
 | o::os,K,f,h=>dd P o.op f h fun v h'=>wV P os K (dK f o.dst v) h'
def Ck:List je→(Nat→Value)→(Nat→Value)
 | [],f=>f
 | o::os,f=>Ck os (dK f o.dst undef)
def ta (P:Program) (g:Option (Nat×Bool)) (l:List je) (K:(Nat→Value)→ae→Prop) (f:Nat→Value) (h:ae):Prop:=
 match g with
 | none=>wV P l K f h
 | some (s,b)=>kA (f s) b (wV P l K f h) (K (Ck l f) h)
def gT.dJ:gT→Bool
 | .p _=>false
 | .l _=>false
 | _=>true
abbrev eP:=List (Nat×pe×(Nat→Value)×Value)
def wK (pre:Nat) (lo:pe) (f:Nat→Value) (v:Value):List (Nat×ae)→Prop
 | []=>True
 | (e,H)::r=>if pre.testBit e=true then wK pre lo f v r else fF lo (ev f) H=some v∧wK pre lo f v r
def lC (pre:Nat) (H:ae):eP→Prop
 | []=>True
 | (j,lo,f,v)::r=>if pre.testBit j=true then lC pre H r else fF lo (ev f) H=some v∧lC pre H r
def kT (P:Program) (io:gT) (pre j:Nat) (aN:List (Nat×ae)) (aI:eP) (f:Nat→Value) (h:ae) (next:List (Nat×ae)→eP→Value→ae→Prop):Prop:=
 match io with
 | .p po=>fG (jx po (ev f)) fun v=>next aN aI v h
 | .l lo=>fG (fF lo (ev f) h) fun v=>wK pre lo f v aN∧next aN (aI++[(j,lo,f,v)]) v h
 | .e (.fl a)=>nG (fZ (.fl a) (ev f) h) fun v h'=>fG (dZ h' v) fun u=>lC pre h' aI∧next (aN++[(j,h)]) (aI++[(j,.obj (.const v),f,u)]) v h'
 | .e eo=>nG (fZ eo (ev f) h) fun v h'=>lC pre h' aI∧next (aN++[(j,h)]) aI v h'
 | .call g args=>rN P g (args.map (ev f)) h fun v h'=>lC pre h' aI∧next (aN++[(j,h)]) aI v h'
 | .kS x args=>tD P (ev f x) (args.map (ev f)) h fun v h'=>lC pre h' aI∧next (aN++[(j,h)]) aI v h'
def wO (io:gT) (pre j:Nat) (aN:List (Nat×ae)) (aI:eP) (h:ae) (next:List (Nat×ae)→eP→Value→ae→Prop):Prop:=
 match io.dJ with
 | false=>next aN aI undef h
 | true=>lC pre h aI∧next (aN++[(j,h)]) aI undef h
def kW (P:Program):List cU→Nat→List (Nat×ae)→eP→((Nat→Value)→ae→Prop)→(Nat→Value)→ae→Prop
 | [],_,_,_,K,f,h=>K f h
 | o::os,j,aN,aI,K,f,h=>
  match o.op.guard with
  | none=>kT P o.op.op o.pre j aN aI f h fun aN aI v h'=>kW P os (j+1) aN aI K (dK f o.op.dst v) h'
  | some (s,b)=>
   kA (f s) b (kT P o.op.op o.pre j aN aI f h fun aN aI v h'=>kW P os (j+1) aN aI K (dK f o.op.dst v) h')
    (wO o.op.op o.pre j aN aI h fun aN aI v h'=>kW P os (j+1) aN aI K (dK f o.op.dst v) h')
def oN (P:Program):List j6→Nat→List (Nat×ae)→eP→(List (Nat×ae)→eP→(Nat→Value)→ae→Prop)→(Nat→Value)→ae→Prop
 | [],_,aN,aI,K,f,h=>K aN aI f h
 | o::os,j,aN,aI,K,f,h=>kT P o.op o.pre j aN aI f h fun aN aI v h'=>oN P os (j+1) aN aI K (dK f o.dst v) h'
def uW:List j6→Nat→List (Nat×ae)→eP→(List (Nat×ae)→eP→(Nat→Value)→ae→Prop)→(Nat→Value)→ae→Prop
 | [],_,aN,aI,K,f,h=>K aN aI f h
 | o::os,j,aN,aI,K,f,h=>wO o.op o.pre j aN aI h fun aN aI v h'=>uW os (j+1) aN aI K (dK f o.dst v) h'
def nY (P:Program):List (Option (Nat×Bool)×List j6)→Nat→List (Nat×ae)→eP→((Nat→Value)→ae→Prop)→(Nat→Value)→ae→Prop
 | [],_,_,_,K,f,h=>K f h
 | (none,l)::gs,j,aN,aI,K,f,h=>oN P l j aN aI (fun aN aI f h=>nY P gs (j+l.length) aN aI K f h) f h
 | (some (s,b),l)::gs,j,aN,aI,K,f,h=>
  kA (f s) b (oN P l j aN aI (fun aN aI f h=>nY P gs (j+l.length) aN aI K f h) f h)
   (uW l j aN aI (fun aN aI f h=>nY P gs (j+l.length) aN aI K f h) f h)
def aF (next:(Nat→Value)→ae→Prop) (K:Exit→(Nat→Value)→ae→Prop):Exit→(Nat→Value)→ae→Prop
 | .normal,f,h=>next f h
 | e,f,h=>K e f h
def bN (id:Nat) (K:Exit→(Nat→Value)→ae→Prop):Exit→(Nat→Value)→ae→Prop
 | .exit i,f,h=>if i=id then K .normal f h else K (.exit i) f h
 | e,f,h=>K e f h
def pq (c:Value) (a b:Prop):Prop:=
 match c with
 | .bool t=>if t=true then a else b
 | _=>False
def AU (Q:(Nat→Value)→ae→Prop) (ls:List Nat) (vs:List Value) (h:ae):Prop:=Q (kj ls vs) h
def zL (init:List Value) (h:ae) (Q:(List Value→ae→Prop)→List Value→ae→Prop):Prop:=
 ∃(J:List Value→ae→Prop) (μ:List Value→ae→Nat),J init h∧∀(xs:List Value) (hx:ae),J xs hx→Q (fun ys hy=>J ys hy∧μ ys hy<μ xs hx) xs hx
abbrev ar:=Exit→(Nat→Value)→ae→Prop
noncomputable def iV (P:Program) (c:fa):ar→(Nat→Value)→ae→Prop:=
 fa.rec (motive:=fun _=>ar→(Nat→Value)→ae→Prop)
  (fun K f h=>K .normal f h)
  (fun l K f h=>nY P l 0 [] [] (K .normal) f h)
  (fun g l K f h=>ta P g l (K .normal) f h)
  (fun _ _ ia ib K f h=>ia (aF (ib K) K) f h)
  (fun ls _ ic K f h=>AU (ic K) ls (ls.map f) h)
  (fun c _ _ ia ib K f h=>pq (ev f c) (ia K f h) (ib K f h))
  (fun id _ ic K f h=>ic (bN id K) f h)
  (fun ks ls _ ic K f h=>zL (ls.map f) h fun L xs hx=>ic (aF (fun f' aT=>ks.map f'=ks.map f∧L (ls.map f') aT) K) (kj (ks++ls) (ks.map f++xs)) hx)
  (fun id K f h=>K (.exit id) f h)
  (fun K f h=>K .ret f h)
  (fun g ls c K f h=>uk P (ev f g) ls (ls.map f) c h (K .normal f)) c
theorem aeI {P:Program} {c:Operand} {a b:fa} {K:ar} {f:Nat→Value} {h:ae}:iV P (.cond c a b) K f h=pq (ev f c) (iV P a K f h) (iV P b K f h):=rfl
def uP (P:Program) (op:Op):Option gT:=
 match iQ P op with
 | some o=>some (.p o)
 | none=>match uN P op with
  | some o=>some (.l o)
  | none=>match iD P op with
   | some o=>some (.e o)
   | none=>match op with
    | .call { callee:=.value (.func f),args,.. }=>if qf P f then some (.call f args.toList) else none
    | .call { callee:=.value x,args,.. }=>some (.kS x args.toList)
    | _=>none
def HD (N:Nat) (ops:Array Oper):Option (Nat×Bool)→Option (Option (Nat×Bool))
 | none=>some none
 | some (j,b)=>match (ops[j]?).bind (·.dst) with
  | some s=>if s<N then some (some (s,b)) else none
  | none=>none
def yj (P:Program) (N:Nat) (ops:Array Oper) (o:Oper):Option iP:=
 if o.op.operands.all jy&&o.dst.all (·<N) then
  match uP P o.op,HD N ops o.guard with
  | some op,some g=>some ⟨o.dst,op,g⟩
  | _,_=>none
 else none
def lE (P:Program) (N:Nat) (ops:Array Oper):List Oper→Option (List iP)
 | []=>some []
 | o::os=>match yj P N ops o,lE P N ops os with
  | some x,some xs=>some (x::xs)
  | _,_=>none
def p7.hX:p7→List Operand
 | .mv x | .un _ x | .conv _ x | .UR x | .R6 x | .R7 x | .PJ _ x | .PN _ _ _ x | .Ss x | .ext x _=>[x]
 | .pick c a b=>[c,a,b]
 | .bin _ x y | .HZ _ x y | .H4 _ x y | .RE x y | .RC _ _ _ x y | .N5 _ x y | .N4 _ _ x y=>[x,y]
 | .Jg _=>[]
 | .Ev _ xs=>xs
 | .KF x lo hi=>x::(lo.toList++hi.toList)
 | .KG _ _ x lo hi=>x::(lo.toList++hi.toList)
 | .fn _ first captured=>first++captured
 | .build _ parts=>parts.map (·.2.2)
 | .RD f x c=>[.func f,x,c]
def pe.hX:pe→List Operand
 | .load _ _ a=>[a]
 | .yb x=>[x]
 | .lookup _ _ m k=>[m,k]
 | .Jj _ _ _ m k=>[m,k]
 | .Ji _ _ _ m k=>[m,k]
 | .entry it=>[it]
 | .obj x=>[x]
def mH.hX:mH→List Operand
 | .alloc _ _=>[]
 | .nF _ _ _ parts=>parts.map (·.2.2)
 | .make _ _ _ l c=>[l,c]
 | .o9 _=>[]
def pb.hX:pb→List Operand
 | .fl a=>a.hX
 | .store _ a v=>[a,v]
 | .box _ x=>[x]
 | .alloc _ _=>[]
 | .nF _ _ _ parts=>parts.map (·.2.2)
 | .make _ _ _ l c=>[l,c]
 | .app _ _ _ s x=>[s,x]
 | .mkMap=>[]
 | .Jo _=>[]
 | .die=>[]
 | .o9 _=>[]
 | .Sl _ m k v=>[m,k,v]
 | .Dj _ m k=>[m,k]
 | .Us x=>[x]
 | .next it=>[it]
 | .Sm _ m k v=>[m,k,v]
 | .Sk m k v=>[m,k,v]
 | .copy d s=>[d,s]
def gT.hX:gT→List Operand
 | .p o=>o.hX
 | .l o=>o.hX
 | .e o=>o.hX
 | .call _ args=>args
 | .kS x args=>x::args
def tmpsOf:List Operand→List Nat
 | []=>[]
 | .tmp t::xs=>t::tmpsOf xs
 | _::xs=>tmpsOf xs
def iP.reads (o:iP):List Nat:=(match o.guard with | some (s,_)=>[s] | none=>[])++tmpsOf o.op.hX
def vX (pS:List Nat):List Nat→Nat
 | []=>0
 | e::es=>(2^e ||| pS.getD e 0) ||| vX pS es
def jB:List (List Nat)→List Nat→List Nat
 | [],acc=>acc
 | es::r,acc=>jB r (acc++[vX acc es])
def uw (o:cU) (t:Nat):Bool:=o.op.dst==some t||o.op.reads.contains t
def B1 (oj:cU) (j:Nat) (oi:cU) (i:Nat):Bool:=
 (i==j||(match oi.op.dst with
  | none=>true
  | some t=> !uw oj t||(if i<j then oj.pre.testBit i else oi.pre.testBit j)))&&
 (!(decide (i<j)&&oi.op.op.dJ&&oj.op.op.dJ)||oj.pre.testBit i)
def J9 (l:List cU):Bool:=l.zipIdx.all fun (oj,j)=>l.zipIdx.all fun (oi,i)=>B1 oj j oi i
def fz (o:Oper):List Nat:=o.after.toList.filterMap fun e=>if Region.binds .any e then some e.on else none
def yc (ops:List Oper):Nat→Bool
 | i=>match ops with
  | []=>true
  | o::os=>(fz o).all (·<i)&&yc os (i+1)
def oD:List iP→List Nat→List cU
 | o::os,p::ps=>⟨o,p⟩::oD os ps
 | _,_=>[]
def Pd (P:Program) (N:Nat) (ops:Array Oper):Option (List cU):=
 match lE P N ops ops.toList with
 | some ios=>
  if P.follows .mixedOrders&&yc ops.toList 0&&J9 (oD ios (jB (ops.toList.map fz) [])) then some (oD ios (jB (ops.toList.map fz) [])) else none
 | none=>none
def iJ (o:cU):Bool:=match o.op.op with | .e (.fl _)=>true | _=>false
def PQ (l:List cU):List Nat:=
 l.zipIdx.filterMap fun (oi,i)=>
  if (match oi.op.op with | .e eo=>eo.KV.isSome | _=>false)&&oi.op.guard.isNone&&(l.zipIdx.any fun (oj,j)=>j != i&&oj.op.op.dJ&& !(oi.pre.testBit j)&& !(oj.pre.testBit i)) then some i else none
def Dv (o:iP):iP:=
 match o.op,o.guard with
 | .e eo,none=>match eo.KV with | some a=>⟨o.dst,.e (.fl a),none⟩ | none=>o
 | _,_=>o
def Jm (pre:Nat):List Nat→Nat→Nat
 | [],_=>0
 | i::is,q=>(if pre.testBit i then 2^q else 0) ||| Jm pre is (q+1)
def azc (l:List cU) (fl:List Nat):List Nat:=
 let inD:=fun i=>fl.contains i||fl.any fun a=>((l[a]?).map fun o=>o.pre.testBit i).getD false
 (List.range l.length).filter inD++(List.range l.length).filter fun i=> !inD i
def aeT (l:List cU) (fl perm:List Nat):List cU:=
 perm.filterMap fun i=>(l[i]?).map fun o=>⟨if fl.contains i then Dv o.op else o.op,Jm o.pre perm 0⟩
def HM:List Nat→Bool
 | []=>true
 | x::xs=> !(xs.contains x)&&HM xs
def B2 (oj:cU) (j:Nat) (oi:cU) (i:Nat):Bool:=
 (i==j||(match oi.op.dst with
  | none=>true
  | some t=> !uw oj t||(if i<j then oj.pre.testBit i else oi.pre.testBit j)))&&
 (!(decide (i<j)&&oi.op.op.dJ&&oj.op.op.dJ&& !(iJ oi)&& !(iJ oj))||oj.pre.testBit i)
def tQ (l:List cU):Nat:=l.length-((l.reverse.takeWhile fun o=> !(iJ o)).length)
def okF (l:List cU) (perm:List Nat) (pS:List Nat):Bool:=
 l.length==pS.length&&perm.length==pS.length&&HM perm&&perm.all (·<pS.length)&&
 (l.zipIdx.all fun (oj,j)=>l.zipIdx.all fun (oi,i)=>B2 oj j oi i)&&
 (l.zipIdx.all fun (o,q)=>if q<tQ l then !(o.op.op.dJ)||iJ o else !(iJ o))&&
 (l.zipIdx.all fun (o,q)=>(List.range pS.length).all fun k=>o.pre.testBit k==(pS.getD (perm.getD q 0) 0).testBit (perm.getD k 0))&&
 (l.zipIdx.all fun (o,_)=> !(iJ o)||o.op.guard.isNone)
def HB (P:Program) (N:Nat) (ops:Array Oper):Option (List cU×List Nat):=
 match lE P N ops ops.toList with
 | some ios=>
  let pS:=jB (ops.toList.map fz) []
  let l:=oD ios pS
  let fl:=PQ l
  let perm:=azc l fl
  let l':=aeT l fl perm
  if P.follows .mixedOrders&&yc ops.toList 0&&okF l' perm pS then some (l',perm) else none
 | none=>none
def Pe (P:Program) (N:Nat) (ops:Array Oper):Option (List cU):=
 match Pd P N ops with
 | some l=>some l
 | none=>(HB P N ops).map Prod.fst
def tM:List iP→List (Option (Nat×Bool)×List je)
 | []=>[]
 | o::os=>match tM os with
  | (g,l)::gs=>if o.guard=g then (g,⟨o.dst,o.op⟩::l)::gs else (o.guard,[⟨o.dst,o.op⟩])::(g,l)::gs
  | []=>[(o.guard,[⟨o.dst,o.op⟩])]
def leaves (g:Option (Nat×Bool)) (d:Option Nat):Bool:=
 match g with
 | some (s,_)=>d != some s
 | none=>true
def wN:List cU→List (Option (Nat×Bool)×List j6)
 | []=>[]
 | o::os=>match wN os with
  | (g,l)::gs=>if o.op.guard=g then (g,⟨o.op.dst,o.op.op,o.pre⟩::l)::gs else (o.op.guard,[⟨o.op.dst,o.op.op,o.pre⟩])::(g,l)::gs
  | []=>[(o.op.guard,[⟨o.op.dst,o.op.op,o.pre⟩])]
abbrev Hints:=List (List Nat)
def wM (ls:List Nat) (c:fa):fa:=
 match ls with
 | []=>c
 | l::ls=>.cut (l::ls) c
def qT:List (Option (Nat×Bool)×List je)→Hints→fa×Hints
 | [],hs=>(.skip,hs)
 | (g,l)::gs,hs=>
  match gs,hs with
  | [],hs=>(.ops g l,hs)
  | gs,h::hs=>let r:=qT gs hs;(.seq (.ops g l) (wM h r.1),r.2)
  | gs,[]=>let r:=qT gs [];(.seq (.ops g l) r.1,r.2)
def fy (P:Program) (N:Nat):Code→Hints→Option (fa×Hints)
 | .skip,hs=>some (.skip,hs)
 | .region _ ops false,hs=>
  match lE P N ops ops.toList with
  | some l=>if l.all fun o=>leaves o.guard o.dst then some (qT (tM l) hs) else none
  | none=>some (.ops none [⟨none,.e .die⟩],hs)
 | .region _ ops true,hs=>
  match Pe P N ops with
  | some l=>if l.all fun o=>leaves o.op.guard o.op.dst then some (.HN (wN l),hs) else none
  | none=>none
 | .seq a b,hs=>
  match fy P N a hs with
  | some (x,h::hs)=>match fy P N b hs with
   | some (y,hs)=>some (.seq x (wM h y),hs)
   | none=>none
  | some (x,[])=>match fy P N b [] with
   | some (y,hs)=>some (.seq x y,hs)
   | none=>none
  | none=>none
 | .cond c a b,hs=>if jy c then match fy P N a hs with
  | some (x,hs)=>match fy P N b hs with
   | some (y,hs)=>some (.cond c x y,hs)
   | none=>none
  | none=>none
  else none
 | .block id c,hs=>match fy P N c hs with
  | some (x,hs)=>some (.block id x,hs)
  | none=>none
 | .loop c,hs=>
  match hs with
  | ks::ls::hs=>match fy P N c hs with
   | some (x,hs)=>some (.loop ks ls x,hs)
   | none=>none
  | _=>none
 | .exit id,hs=>some (.exit id,hs)
 | .ret,hs=>some (.ret,hs)
 | .rangeFunc g ps j9 body,hs=>
  match hs with
  | ls::hs=>if jy g&&ps.all (·<N) then some (.range g ls ⟨N,ps,j9,body⟩,hs) else none
  | []=>none
 | _,_=>none
def iz:Code→Bool
 | .seq a b=>iz a&&iz b
 | .cond _ a b=>iz a&&iz b
 | .block _ c=>iz c
 | .loop c=>iz c
 | .rangeFunc .. =>false
 | _=>true
section
variable {P : Program} {N : Nat}
def xR (P:Program) (N B:Nat) (ρ:aK) (h:ae) (w:World) (e:Exit) (f':Nat→Value) (h':ae):Exit→Act→World→Prop:=
 fun e' a' w'=>e'=e∧∃av,ep P N B av f' h' a' w'∧Tr ρ h w av h' w'
def gK (P:Program) (N:Nat) (out:Bool) (c:Code) (f:Nat→Value) (h:ae) (e:Exit) (f':Nat→Value) (h':ae):Prop:=
 ∀R,(out=true→R=none)→∀B ρ a w,ep P N B ρ f h a w→c.wpIn (FR R) 0 P (xR P N B ρ h w e f' h') a w
def F5 (P:Program) (N:Nat) (o:Oper) (f:Nat→Value) (h:ae) (v:Value) (h':ae):Prop:=
 ∀R B ρ a w,ep P N B ρ f h a w→∀(next:Act→World→Prop) (Q:Exit→Act→World→Prop),
  (∀av v' w',ax av v v'→aZ P av h' w'→Tr ρ h w av h' w'→next (a.put o.dst v') w')→o.wpIn (FR R) 0 P a w next Q
theorem KA {o:Oper} (hn:∀c,o.op≠ .defer c) (R:Option Nat) (g:Operand→Value):o.semAt R g=execOp g o:=by
 cases R with
 | none=>rfl
 | some l=>exact Oper.semAt_some l g o hn
theorem K7 {R:Option Nat} {o:Oper} {a:Act} {w w':World} {next:Act→World→Prop} {Q:Exit→Act→World→Prop} {v:Value} (hn:∀c,o.op≠ .defer c)
  (he:(execOp a.eval o).run P w=.ok (.value v) w') (hk:next (a.put o.dst v) w'):o.wpIn (FR R) 0 P a w next Q:=by
 refine ⟨fun _ _=>trivial,?_⟩
 rw [KA hn,he,Oper.uponIn_value]
 exact hk
theorem aEj {R:Option Nat} {o:Oper} {a:Act} {w w':World} {next:Act→World→Prop} {Q:Exit→Act→World→Prop} (hn:∀c,o.op≠ .defer c)
  (he:(execOp a.eval o).run P w=.ok .skip w') (hk:next (a.put o.dst undef) w'):o.wpIn (FR R) 0 P a w next Q:=by
 refine ⟨fun _ _=>trivial,?_⟩
 rw [KA hn,he,Oper.uponIn_skip]
 exact hk
theorem abI {f:FuncId} {args:Array Value} {w:World} {K:Ending→World→Prop} (h:Calls P f args w K) (R:Option Nat) (n:Nat):CallsIn (FR R) n P f args w K:=by
 cases R with
 | none=>exact callsIn_wide.2 h
 | some l=>exact (callsIn_wide (n:=n)).2 h
theorem aCH {l:Nat} {f:FuncId} {tmps:Array Value} {j9 body:Code} {w:World} {K:Ending→World→Prop} (h:RoundIn Fence.wide 0 P l f tmps j9 body w K) (R:Option Nat):
  RoundIn (FR R) 0 P l f tmps j9 body w K:=h
theorem O3 {f:FuncId} (h:qf P f=true) (args:Array Value) (w:World):(callFunc f args).run P w=.ok (.enter f args) w:=by
 unfold qf at h
 split at h
 ·rename_i fn hf
  simp only [and_eq_true,bne_iff_ne] at h
  obtain ⟨h1,h2⟩:=h
  have h3:fn.body≠none:=by
   intro hb
   simp [hb] at h2
  simp [callFunc,hf,h1,h3]
 ·cases h
theorem ahy {o:Oper} {f:Nat→Value} {h:ae} {g:FuncId} {args:List Value} {v:Value} {h':ae} (hc:wz P g args h v h')
  (hd:∀c,o.op≠ .defer c)
  (he:∀B ρ a w,ep P N B ρ f h a w→∃args':Array Value,bF ρ args args'.toList∧(execOp a.eval o).run P w=.ok (.enter g args') w):F5 P N o f h v h':=by
 intro r B ρ a w R next Q hn
 obtain ⟨args',hv,hr⟩:=he B ρ a w R
 refine ⟨fun _ _=>trivial,?_⟩
 rw [KA hd,hr,Oper.uponIn_enter]
 refine ⟨fun h=>(by cases h),?_⟩
 refine (abI (hc ρ args' w hv R.heap) r _).mono ?_
 rintro e w' ⟨v',av,rfl,h1,h2,h3⟩
 exact hn av v' w' h1 h2 h3
theorem ayV {o:Oper} {f:Nat→Value} {h:ae} {i:Nat} {args:List Value} {v:Value} {h':ae} (hc:LB P i args h v h')
  (hd:∀c,o.op≠ .defer c)
  (he:∀B ρ a w,ep P N B ρ f h a w→∃(r:RI) (args':Array Value),ρ i=some r∧bF ρ args args'.toList∧(execOp a.eval o).run P w=(Instr.yield r.bw args').run P w):F5 P N o f h v h':=by
 intro R' B ρ a w R next Q hn
 obtain ⟨r,args',hi,hv,hr⟩:=he B ρ a w R
 obtain ⟨fn,tmps,j9,body,e1,e2⟩:=hc ρ r args' w hi hv R.heap
 refine ⟨fun _ _=>trivial,?_⟩
 rw [KA hd,hr,e1,Oper.uponIn_round]
 refine ⟨fun h=>(by cases h),?_⟩
 refine (aCH e2 R').mono ?_
 rintro e w' ⟨v',av,rfl,h1,h2,h3⟩
 exact hn av v' w' h1 h2 h3
theorem abM {op:Op} {io:gT} (h:uP P op=some io):∀c,op≠ .defer c:=by
 rintro c rfl
 simp [uP,iQ,uN,iD] at h
theorem Ph {op:Op} {io:gT} (h:uP P op=some io):(∃o,io=.p o∧iQ P op=some o)∨(∃o,io=.l o∧uN P op=some o)∨(∃o,io=.e o∧iD P op=some o)∨
  (∃f args at_,op=.call ⟨.value (.func f),args,at_⟩∧qf P f=true∧io=.call f args.toList)∨(∃x args at_,op=.call ⟨.value x,args,at_⟩∧io=.kS x args.toList):=by
 unfold uP at h
 split at h
 ·rename_i o ho;simp at h;exact .inl ⟨o,h.symm,ho⟩
 ·split at h
  ·rename_i o ho;simp at h;exact .inr (.inl ⟨o,h.symm,ho⟩)
  ·split at h
   ·rename_i o ho;simp at h;exact .inr (.inr (.inl ⟨o,h.symm,ho⟩))
   ·split at h
    ·split at h
     ·rename_i hc;simp at h;exact .inr (.inr (.inr (.inl ⟨_,_,_,rfl,hc,h.symm⟩)))
     ·cases h
    ·simp at h;exact .inr (.inr (.inr (.inr ⟨_,_,_,rfl,h.symm⟩)))
    ·cases h
theorem zT {o:Oper} {io:gT} {f:Nat→Value} {h:ae} {K:Value→ae→Prop} (hc:uP P o.op=some io) (aG:o.op.operands.all jy=true) (hs:dd P io f h K):
  ∃v h',F5 P N o f h v h'∧K v h':=by
 have oT:=abM hc
 rcases Ph hc with ⟨po,rfl,hp⟩ | ⟨lo,rfl,hl⟩ | ⟨eo,rfl,he⟩ | ⟨g,args,at_,ho,mQ,rfl⟩ | ⟨x,args,at_,ho,rfl⟩
 ·simp only [dd,fG] at hs
  split at hs
  ·rename_i v hv
   refine ⟨v,h,?_,hs⟩
   intro _ B ρ a w R next Q hn
   obtain ⟨v',h1,h2⟩:=azn w hp aG R.heap.aX (fun x hx=>R.ev hx) hv
   exact K7 oT h1 (hn ρ v' w h2 R.heap (Tr.refl R.heap))
  ·exact hs.elim
 ·simp only [dd,fG] at hs
  split at hs
  ·rename_i v hv
   refine ⟨v,h,?_,hs⟩
   intro _ B ρ a w R next Q hn
   obtain ⟨v',h1,h2⟩:=ayh hl aG R.heap (fun x hx=>R.ev hx) hv
   exact K7 oT h1 (hn ρ v' w h2 R.heap (Tr.refl R.heap))
  ·exact hs.elim
 ·simp only [dd,nG] at hs
  split at hs
  ·rename_i v h' hv
   refine ⟨v,h',?_,hs⟩
   intro _ B ρ a w R next Q hn
   obtain ⟨nx,w',av,v',e1,e2,e3,e4,e5⟩:=auE he aG R.heap (fun x hx=>R.ev hx) hv
   rcases e2 with rfl | ⟨rfl,rfl⟩
   ·exact K7 oT e1 (hn av v' w' e3 e4 e5)
   ·exact aEj oT e1 (hn av undef w' e3 e4 e5)
  ·exact hs.elim
 ·obtain ⟨v,h',ry,hk⟩:=hs
  refine ⟨v,h',ahy ry oT ?_,hk⟩
  intro B ρ a w R
  rw [ho] at aG
  simp [Op.operands,Call.operands] at aG
  refine ⟨args.map a.eval,by simpa using bF.zO (fun x hx=>R.ev hx) (xs:=args.toList) (by simpa using aG.2),?_⟩
  simp [execOp,ho,resolve,Act.eval,Deferred.ofValue,invoke,O3 mQ]
 ·simp only [dd,tD] at hs
  rw [ho] at aG
  simp [Op.operands,Call.operands] at aG
  split at hs
  ·rename_i g first cap hx
   obtain ⟨mQ,v,h',ry,hk⟩:=hs
   refine ⟨v,h',ahy ry oT ?_,hk⟩
   intro B ρ a w R
   have hr:=R.ev (x:=x) aG.1
   rw [hx] at hr
   generalize hy:a.eval x=y at hr
   cases hr with
   | func _ s1 s2 r1 r2=>
    rename_i PM Hw
    refine ⟨PM++args.map a.eval++Hw,?_,?_⟩
    ·have q1:=bF.ti s1 r1
     have q2:=bF.zO (fun x hx=>R.ev hx) (xs:=args.toList) (by simpa using aG.2)
     have q3:=bF.ti s2 r2
     simpa using (q1.append q2).append q3
    ·simp [execOp,ho,resolve,hy,Deferred.ofValue,invoke,O3 mQ]
  ·rename_i i first cap hx
   obtain ⟨⟨rfl,rfl⟩,v,h',ry,hk⟩:=hs
   refine ⟨v,h',ayV ry oT ?_,hk⟩
   intro B ρ a w R
   have hr:=R.ev (x:=x) aG.1
   rw [hx] at hr
   generalize hy:a.eval x=y at hr
   cases hr with
   | yield hi=>
    rename_i r
    refine ⟨r,args.map a.eval,hi,by simpa using bF.zO (fun x hx=>R.ev hx) (xs:=args.toList) (by simpa using aG.2),?_⟩
    simp [execOp,ho,resolve,hy,Deferred.ofValue,invoke]
  ·exact hs.elim
end
end
end Go.Sim
